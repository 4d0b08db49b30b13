
/-
  The reference's Sum.
-/
import Derived.Test.YtipjelkdbbhcpaaFdW
import Derived.Test.YtipjelkdbbhcpaaFad
import Derived.Test.YtipjelkdbbhcpaaLate
set_option linter.unusedSimpArgs false
set_option linter.unusedVariables false
namespace Go.Proofs.Ytipjelkdbbhcpaa
open Go.RowKit Go.Deep

def TupF (x : Val × Int) : Fact := fun u _ => ∃ y : Val, u = .tuple #[flat y, .int .i64 x.2] ∧ Flat y ∧ sameV y x.1 = true
theorem TupF.steady (x : Val × Int) : Steady (TupF x) := ⟨fun u w w' h _ => h⟩
def FlatF (x : Val) : Fact := fun u _ => ∃ y : Val, u = flat y ∧ Flat y ∧ sameV y x = true
theorem FlatF.steady (x : Val) : Steady (FlatF x) := ⟨fun u w w' h _ => h⟩
def EqF (v : Value) : Fact := fun u _ => u = v
theorem EqF.steady (v : Value) : Steady (EqF v) := ⟨fun u w w' h _ => h⟩

theorem opC_canon_left (f x : Nat) : opC .add (canon f) x = opC .add f x := addC_canon f x
/-- what is the same as a value adds up alike -/
theorem near_add {y acc : Val} (hy : Flat y) (ha : Flat acc) (h : sameV y acc = true) (x : Val) : arV .add (· + ·) y x = arV .add (· + ·) acc x := by
  obtain ⟨k, b, n, f, s, l⟩ := y
  obtain ⟨k', b', n', f', s', l'⟩ := acc
  obtain ⟨h1, _, _, _, h2⟩ := hy
  obtain ⟨h3, _, _, _, h4⟩ := ha
  cases h1; cases h2; cases h3; cases h4
  simp only [sameV, sameVL, Bool.and_true, Bool.and_eq_true, beq_iff_eq] at h
  obtain ⟨⟨⟨⟨h1, h2⟩, h3⟩, h4⟩, h5⟩ := h
  subst h1
  subst h3
  have hf : opC .add (floV (.mk k b n f [] [])) (floV x) = opC .add (floV (.mk k b' n f' [] [])) (floV x) := by
    have e1 : floV (.mk k b n f [] []) = if k = 2 then floatOfInt .f64 n else f := rfl
    have e2 : floV (.mk k b' n f' [] []) = if k = 2 then floatOfInt .f64 n else f' := rfl
    rw [e1, e2]
    by_cases hk : k = 2
    · rw [if_pos hk, if_pos hk]
    · rw [if_neg hk, if_neg hk, ← opC_canon_left f, ← opC_canon_left f', h4]
  unfold arV
  rw [hf]
  rfl
theorem sameV_trans {a b c : Val} (ha : Flat a) (hb : Flat b) (hc : Flat c) (h : sameV a b = true) (h2 : sameV b c = true) : sameV a c = true := by
  obtain ⟨k, b1, n, f, s, l⟩ := a
  obtain ⟨k', b', n', f', s', l'⟩ := b
  obtain ⟨k'', b'', n'', f'', s'', l''⟩ := c
  obtain ⟨h1, _, _, _, h3⟩ := ha
  obtain ⟨h4, _, _, _, h5⟩ := hb
  obtain ⟨h6, _, _, _, h7⟩ := hc
  cases h1; cases h3; cases h4; cases h5; cases h6; cases h7
  simp only [sameV, sameVL, Bool.and_true, Bool.and_eq_true, beq_iff_eq] at h h2 ⊢
  obtain ⟨⟨⟨⟨h1, h3⟩, h4⟩, h5⟩, h6⟩ := h
  obtain ⟨⟨⟨⟨g1, g3⟩, g4⟩, g5⟩, g6⟩ := h2
  exact ⟨⟨⟨⟨h1.trans g1, h3.trans g3⟩, h4.trans g4⟩, h5.trans g5⟩, trivial⟩

set_option maxRecDepth 8000 in
set_option maxHeartbeats 2000000 in
theorem rsum_c (A : Option Addr) (cap : Nat) (l : List Val) (w : World) (hp : Parts w A l) (hl : l.length ≤ 100) :
    Calls Try.prog 17 #[.slice A l.length cap] w (RArEnds (sumF l (intV 0)) w) := by
  go_enter Try.func17, Try.ntmps17
  go_upto_region 2 with fail
  obtain ⟨w2, hw2⟩ : ∃ w2, w2 = w.alloc (.cells #[.int .i64 0, .bool false, .int .i64 0, .float .f64 0, .string (st []), .slice none 0 0] 27) := ⟨_, rfl⟩
  obtain ⟨w3, hw3⟩ : ∃ w3, w3 = w2.alloc (.cells #[.int .i64 2, .bool false, .int .i64 0, .float .f64 0, .string (st []), .slice none 0 0] 27) := ⟨_, rfl⟩
  have s2 : w2.heap.size = w.heap.size + 1 := hw2 ▸ alloc_grows _ _ rfl
  have k3 : Below w2.heap.size w2 w3 := hw3 ▸ below_alloc w2 _
  have c4 : Cel w3 w2.heap.size 2 false 0 0 [] none 0 0 := hw3 ▸ Cel.new w2 2 false 0 0 [] none 0 0
  have c2 : Cel w3 w.heap.size 0 false 0 0 [] none 0 0 := Cel.keep (hw2 ▸ Cel.new w 0 false 0 0 [] none 0 0) k3
  have B2 : Below w.heap.size w w2 := hw2 ▸ below_alloc w _
  have B3 := B2.trans (k3.mono B2.size)
  have hg : w.heap.size < w.heap.size + 1 := by omega
  rw [s2] at c4
  rw [show (w.alloc (.cells #[.int .i64 0, .bool false, .int .i64 0, .float .f64 0, .string ⟨#[]⟩, .slice none 0 0] 27)).alloc (.cells #[.int .i64 2, .bool false, .int .i64 0, .float .f64 0, .string ⟨#[]⟩, .slice none 0 0] 27) = w3 from by rw [hw3, hw2] <;> rfl]
  clear hw3 hw2 s2 k3 B2
  generalize w.heap.size + 1 = g at *
  go_wp2_with fail
  go_loopw [5] (fun a5 wr => ∃ (i : Nat) (y : Val), a5 = .int .i64 i ∧ i ≤ l.length ∧ Flat y ∧ Hid (∃ acc, Flat acc ∧ sameV y acc = true ∧ sumF l (intV 0) = sumF (l.drop i) acc) ∧ Cel wr w.heap.size 0 false 0 0 [] none 0 0 ∧ Cel wr g y.k y.b y.n y.f y.s none 0 0 ∧ Below w.heap.size w wr) (fun a _ => l.length - (intOf a).toNat)
  case atStart => exact ⟨0, intV 0, rfl, Nat.zero_le _, intV_flat ⟨by omega, by omega⟩, ⟨intV 0, intV_flat ⟨by omega, by omega⟩, sameV_self _, rfl⟩, c2, c4, B3⟩
  case round =>
    clear c2 c4 B3
    obtain ⟨i, z, rfl, hi, hfz, hsum, c2, c4, hbr⟩ := hrel
    obtain ⟨acc, hfa, hsa, hsum⟩ := hsum.out
    by_cases hil : i < l.length
    · have hil' : (i : Int) < l.length := by omega
      obtain ⟨ad, k, b, n, f, s, B, len, c, rfl, hx, hat⟩ := hp i l[i] (by simp)
      obtain ⟨q6, q0, q1, q2, q3, q4, q5⟩ := hat.keep hbr
      have hst := Lib.hid (sumF_step (l := l) (i := i) (x := l[i]) (by simp) acc)
      have wi : IntKind.i64.wrap ((i : Int) + 1) = (i : Int) + 1 := by rw [wrap_i64]; omega
      obtain ⟨A0, cp, he, _, hn, _⟩ := hx.open
      simp at he
      obtain ⟨rfl, rfl, rfl, rfl, rfl, rfl, rfl, rfl⟩ := he
      have hcx := fun wx => radd_c z l[i] none B 0 0 l[i].l.length c wx hfz.n hn
      rw [near_add hfz hfa hsa] at hcx
      have hfl := arV_flat .add (· + ·) acc l[i]
      generalize l[i] = x at *
      generalize hX : arV .add (· + ·) acc x = X at *
      obtain ⟨y, e⟩ := X
      unfold RArEnds at hcx
      dsimp only at hcx hfl
      have hst2 : sumF (l.drop i) acc = if e ≠ 0 then (noV, e) else sumF (l.drop (i + 1)) y := by rw [hst.out, show addP acc x = (y, e) from hX]
      have hST := Lib.hid hst2
      have hsum := Lib.hid hsum
      clear hst hst2 hX hx hat hp hfa hsa
      have c4h := Lib.hid c4
      have hgr := c4.lt
      obtain ⟨⟨a6, a0, a1, a2, a3, a4, a5⟩, a7⟩ := c4
      go_upto_region 5 with fail
      (refine wp_region_late_at (10) (8) [21, 15, 22, 23, 6] [6] (by kernel_rfl) (by kernel_rfl) (by kernel_rfl) (by kernel_rfl) ?_; (simp only [List.take_succ_cons, List.take_zero, List.drop_succ_cons, List.drop_zero, LateTail]))
      ((with_reducible refine wpRel_none (by kernel_rfl) (by kernel_rfl) ?_); intro K hK; go_simp; first | (with_reducible refine hK _ ?_; clear hK K) | (apply Exists.intro; (with_reducible refine ⟨fun _ => ⟨?_, _, rfl⟩, hK _ ?_⟩); (· exact rfl); clear hK K) | (apply Exists.intro; (with_reducible refine ⟨fun _ => ?_, hK _ ?_⟩); (· (with_reducible (fail))); clear hK K))
      ((with_reducible refine wpRel_none (by kernel_rfl) (by kernel_rfl) ?_); intro K hK; go_simp; first | (with_reducible refine hK _ ?_; clear hK K) | (apply Exists.intro; (with_reducible refine ⟨fun _ => ⟨?_, _, rfl⟩, hK _ ?_⟩); (· exact rfl); clear hK K) | (apply Exists.intro; (with_reducible refine ⟨fun _ => ?_, hK _ ?_⟩); (· (with_reducible (fail))); clear hK K))
      ((with_reducible refine wpRel_none (by kernel_rfl) (by kernel_rfl) ?_); intro K hK; go_simp; first | (with_reducible refine hK _ ?_; clear hK K) | (apply Exists.intro; (with_reducible refine ⟨fun _ => ⟨?_, _, rfl⟩, hK _ ?_⟩); (· exact rfl); clear hK K) | (apply Exists.intro; (with_reducible refine ⟨fun _ => ?_, hK _ ?_⟩); (· (with_reducible (fail))); clear hK K))
      ((with_reducible refine wpRel_none (by kernel_rfl) (by kernel_rfl) ?_); intro K hK; go_simp; first | (with_reducible refine hK _ ?_; clear hK K) | (apply Exists.intro; (with_reducible refine ⟨fun _ => ⟨?_, _, rfl⟩, hK _ ?_⟩); (· exact rfl); clear hK K) | (apply Exists.intro; (with_reducible refine ⟨fun _ => ?_, hK _ ?_⟩); (· (with_reducible (fail))); clear hK K))
      ((with_reducible refine wpRel_none (by kernel_rfl) (by kernel_rfl) ?_); intro K hK; go_simp; first | (with_reducible refine hK _ ?_; clear hK K) | (apply Exists.intro; (with_reducible refine ⟨fun _ => ⟨?_, _, rfl⟩, hK _ ?_⟩); (· exact rfl); clear hK K) | (apply Exists.intro; (with_reducible refine ⟨fun _ => ?_, hK _ ?_⟩); (· (with_reducible (fail))); clear hK K))
      (with_reducible refine wpRel_fact [] (21) ((TupF (y, e))) (by kernel_rfl) rfl rfl ((TupF.steady _)) (by first | exact rfl | go_simp) (fun p => ?_) ?_)
      · (try simp only [pickR, pickR_nil, fillR, List.contains_cons, List.contains_nil, Nat.reduceBEq, Bool.or_false, Bool.or_true, Bool.true_or, Bool.false_or, if_true, if_false, Bool.false_eq_true])
        go_wp2_with ((with_reducible refine (hcx _).mono ?_); rintro e w' ⟨y', rfl, h1, h2, hb⟩)
        exact ⟨fun h => absurd h (by decide), rfl, rfl, hb, ⟨y', rfl, h1, h2⟩⟩
      (with_reducible refine wpRel_fact [21] (15) ((TupF (y, e))) (by kernel_rfl) rfl rfl ((TupF.steady _)) (by first | exact rfl | go_simp) (fun p => ?_) ?_)
      · (try simp only [pickR, pickR_nil, fillR, List.contains_cons, List.contains_nil, Nat.reduceBEq, Bool.or_false, Bool.or_true, Bool.true_or, Bool.false_or, if_true, if_false, Bool.false_eq_true])
        rintro u ⟨y', rfl, h1, h2⟩
        go_wp2_with fail
        exact ⟨fun h => absurd h (by decide), rfl, rfl, Below.refl _ _, ⟨y', rfl, h1, h2⟩⟩
      (with_reducible refine wpRel_fact [15] (22) ((FlatF y)) (by kernel_rfl) rfl rfl ((FlatF.steady _)) (by first | exact rfl | go_simp) (fun p => ?_) ?_)
      · (try simp only [pickR, pickR_nil, fillR, List.contains_cons, List.contains_nil, Nat.reduceBEq, Bool.or_false, Bool.or_true, Bool.true_or, Bool.false_or, if_true, if_false, Bool.false_eq_true])
        rintro u ⟨y', rfl, h1, h2⟩
        go_wp2_with fail
        exact ⟨fun h => absurd h (by decide), rfl, rfl, Below.refl _ _, ⟨y', rfl, h1, h2⟩⟩
      (with_reducible refine wpRel_fact [15] (23) ((EqF (.int .i64 e))) (by kernel_rfl) rfl rfl ((EqF.steady _)) (by first | exact rfl | go_simp) (fun p => ?_) ?_)
      · (try simp only [pickR, pickR_nil, fillR, List.contains_cons, List.contains_nil, Nat.reduceBEq, Bool.or_false, Bool.or_true, Bool.true_or, Bool.false_or, if_true, if_false, Bool.false_eq_true])
        rintro u ⟨y', rfl, h1, h2⟩
        go_wp2_with fail
        exact ⟨fun h => absurd h (by decide), rfl, rfl, Below.refl _ _, rfl⟩
      ((with_reducible refine wpRel_fact [] (6) (VarAt (wr.heap.size) (#[.int .i64 0, .bool false, .int .i64 0, .float .f64 0, .string (st []), .slice none 0 0]) (27)) (by kernel_rfl) rfl rfl (VarAt.steady _ _ _) (by first | exact rfl | go_simp) ?_ ?_); (· intro p; rw [pickR_nil]; (simp only [fillR]); go_wp2_with fail; exact var_post p.h.size rfl rfl))
      ((with_reducible refine wpRel_nil ?_); intro p; (simp only [fillR]))
      rintro u6 ⟨b6, h6, rfl, z6⟩ u23 rfl u22 ⟨y', rfl, hfy, hsy⟩ u15 _ u21 _
      intro _
      have k9 := p.h
      have c28 := c2.keep k9
      have c48 := c4h.out.keep k9
      clear a0 a1 a2 a3 a4 a5 a6 a7 q0 q1 q2 q3 q4 q5 q6 hcx c2 c4h
      generalize p.w = w9 at *
      clear p
      have y6 : Cel w9 b6 0 false 0 0 [] none 0 0 := ⟨⟨(Array.getElem?_eq_some_iff.1 z6).1, cell_of z6 0, cell_of z6 1, cell_of z6 2, cell_of z6 3, cell_of z6 4, cell_of z6 5⟩, _, z6⟩
      obtain ⟨w10, hw10⟩ : ∃ w', put6 w9 b6 y'.k y'.b y'.n y'.f y'.s none 0 0 = w' := ⟨_, rfl⟩
      have v6 : Cel w10 b6 y'.k y'.b y'.n y'.f y'.s none 0 0 := hw10 ▸ y6.put _ _ _ _ _ none 0 0
      have k10 : Below wr.heap.size wr w10 := hw10 ▸ put6_below k9 h6 _ _ _ _ _ _ _ _
      have c2A : Cel w10 w.heap.size 0 false 0 0 [] none 0 0 := c28.other (by rw [← hw10, put6_size]; exact Nat.le_refl _) (by rw [← hw10]; exact put6_heap (by omega) ..)
      have c4A : Cel w10 g z.k z.b z.n z.f z.s none 0 0 := c48.other (by rw [← hw10, put6_size]; exact Nat.le_refl _) (by rw [← hw10]; exact put6_heap (by omega) ..)
      have B10 := hbr.trans (k10.mono hbr.size)
      unfold put6 at hw10
      have q6 := fun j => y6.frozen j
      have l6 := y6.lt
      obtain ⟨⟨t6, t0, t1, t2, t3, t4, t5⟩, t7⟩ := y6
      clear z6 c28 c48
      go_simp
      go_upto_region 6 with fail
      clear t0 t1 t2 t3 t4 t5 t6 t7 q6 l6 hw10 k9 k10 h6
      by_cases he : e = 0
      · subst he
        have c4p := c4A.put y'.k y'.b y'.n y'.f y'.s none 0 0
        have c2p := c2A.other (w' := put6 w10 g y'.k y'.b y'.n y'.f y'.s none 0 0) (by rw [put6_size]; exact Nat.le_refl _) (put6_heap (by omega) ..)
        have B11 := put6_below B10 (Nat.le_of_lt hg) y'.k y'.b y'.n y'.f y'.s none 0 0
        have gf := fun j => c4A.frozen j
        have c4l := c4A.lt
        obtain ⟨⟨a6, a0, a1, a2, a3, a4, a5⟩, a7⟩ := c4A
        obtain ⟨⟨t6, t0, t1, t2, t3, t4, t5⟩, t7⟩ := v6
        have hP := Lib.hid (And.intro c4p (And.intro c2p B11))
        clear c4p c2p B11
        go_wp2_with fail
        refine ⟨⟨i + 1, y', rfl, hil, hfy, ⟨y, hfl, hsy, ?_⟩, hP.out.2.1, hP.out.1, hP.out.2.2⟩, by simp [intOf]; omega⟩
        rw [hsum.out, hST.out]
        rfl
      · have he' : (e != 0) = true := by simpa using he
        have hres : sumF l (intV 0) = (noV, e) := by rw [hsum.out, hST.out, if_pos he]
        have hR := Lib.hid hres
        have gf := fun j => c2A.frozen j
        have y5 : w.heap.size ≤ w.heap.size := Nat.le_refl _
        obtain ⟨⟨a6, a0, a1, a2, a3, a4, a5⟩, a7⟩ := c2A
        clear hres c4A v6 hsum hST
        go_wp2_with fail
        refine bodyPost_ret (v := .tuple #[valV 0 false 0 0 [] none 0 0, .int .i64 e]) (by simp only [results, Try.results17] <;> go_simp) rfl ⟨noV, by rw [hR.out] <;> rfl, noV_flat, by rw [hR.out]; exact sameV_self _, ?_⟩
        repeat (with_reducible refine back_set ?_ _ y5 _)
        exact B10
    · have hil' : ¬ (i : Int) < l.length := by omega
      have hres : sumF l (intV 0) = (acc, 0) := by rw [hsum, sumF_end (by omega)]
      have hR := Lib.hid hres
      have gf := fun j => c2.frozen j
      obtain ⟨⟨g6, g0, g1, g2, g3, g4, g5⟩, g7⟩ := c2
      obtain ⟨⟨a6, a0, a1, a2, a3, a4, a5⟩, a7⟩ := c4
      have y5 : w.heap.size ≤ w.heap.size := Nat.le_refl _
      clear hres hsum hp
      go_wp2_with fail
      refine bodyPost_ret (v := .tuple #[valV z.k z.b z.n z.f z.s none 0 0, .int .i64 0]) (by simp only [results, Try.results17]; go_simp) rfl ⟨z, by rw [hR.out] <;> rfl, hfz, by rw [hR.out]; exact hsa, ?_⟩
      repeat (with_reducible refine back_set ?_ _ y5 _)
      exact hbr
end Go.Proofs.Ytipjelkdbbhcpaa
