/-
  FrameBytes' walk.
-/
import Derived.Test.YtijkliffgihglaaFrD
import Derived.Test.YtijkliffgihglaaFrW
set_option linter.unusedSimpArgs false
set_option linter.unusedVariables false
namespace Go.Proofs.Ytijkliffgihglaa
open Go.RowKit

theorem owns_empty (w : World) (T : TypeId) : (w.alloc (.cells #[] T)).ownsRow w.heap.size T 1 (.slice (some ⟨w.heap.size, 0, none⟩) 0 0) 0 [] :=
  ⟨rfl, .inr ⟨w.heap.size, 0, #[], rfl, Nat.le_refl _, by show (w.heap.push _)[w.heap.size]? = _; simp, Nat.le_refl _, by unfold maxLen; omega, rfl, rfl⟩⟩

/-- what Feed leaves, as cells -/
theorem feed0 (rb : Nat) (t : List UInt8) (w : World) (hr : Rd w rb [] 0) (hl : t.length ≤ 1000000) {fs : List (List UInt8)} {rst : List UInt8} {b : Bool} (hF : Hid (parse t.length t = (fs, rst, b))) {E : Int} (hE : Hid (E = errOf b)) :
    Calls Try.prog 15 #[.pointer (some ⟨rb, 0, none⟩), .string (st t)] w fun e w' =>
    ∃ ao cap, e = .returned (.tuple #[.slice ao fs.length cap, .int .i64 E]) ∧
      (∀ k x, fs[k]? = some x → ∃ g, ao = some ⟨g, 0, none⟩ ∧ g < w'.heap.size ∧ w'.cell? ⟨g, k, none⟩ = some (.string (st x))) ∧
      Rd w' rb rst E ∧ w.grownBy w' (some rb) := by
  have hF := hF.out
  have hE := hE.out
  refine (feed_c rb [] t w hr (by simpa using hl)).mono ?_
  rintro e w' ⟨v, fs', r', b', hp', rfl, hown, hrd, hg⟩
  simp only [List.nil_append] at hp'
  rw [hF] at hp'
  cases hp'
  rw [← hE] at hrd ⊢
  obtain ⟨ao, cap, rfl, _, hk⟩ := owns_read hown
  refine ⟨ao, cap, rfl, fun k x hx => ?_, hrd, hg⟩
  obtain ⟨g, h1, _, h2, h3⟩ := hk k (.string (st x)) (by simp [hx])
  exact ⟨g, h1, h2, h3⟩

theorem own_below {w w' : World} {base : Nat} {e : TypeId} {size : Nat} {v : Value} {n : Nat} {xs : List Value} (h : w.ownsRow base e size v n xs) (hb : Below w.heap.size w w') : w'.ownsRow base e size v n xs := by
  refine ⟨h.1, ?_⟩
  rcases h.2 with h | ⟨g, cap, cur, hv, hbg, hc, hr⟩
  · exact .inl h
  · exact .inr ⟨g, cap, cur, hv, hbg, (hb.block g (Array.getElem?_eq_some_iff.1 hc).1).trans hc, hr⟩

theorem World.ownsRow_step {w wr w1 : World} {n : Nat} {v : Value} {xs : List Value} {o : Obj} {T : TypeId} (hb : Below w.heap.size w wr) (hown : wr.ownsRow w.heap.size T 1 v n xs) (hg : (wr.alloc o).grownBy w1 v.ownBlock) : Below w.heap.size w w1 :=
  (hb.alloc hb.size o).grown hg (by have := hb.size; simp; omega) fun k hk => (hown.lt k hk).1

set_option maxHeartbeats 4000000 in
theorem frameBytes_walk (s : List UInt8) (w : World) (hl : s.length ≤ maxLen) : Calls Try.prog 6 #[.string (st s)] w (TrueEnds w) := by
  have c1 := fun w => few_c s w hl
  have ht : (s.take 300).length ≤ 300 := by simp; omega
  obtain ⟨i0', hi, hz0, hz1, hz2⟩ := info_parts Try.info9
  generalize s.take 300 = t at *
  obtain ⟨fs, rst, b, hF⟩ : ∃ fs rst b, Hid (parse t.length t = (fs, rst, b)) := ⟨_, _, _, rfl⟩
  obtain ⟨E, hE⟩ : ∃ E : Int, Hid (E = errOf b) := ⟨_, rfl⟩
  go_enter Try.func6, Try.ntmps6
  go_wp2_with (first | ((with_reducible refine (c1 _).mono ?_); rintro e w1 ⟨rfl, rfl⟩) | ((with_reducible refine (feed0 _ _ _ (rd_alloc _ _) (by omega) hF hE).mono ?_); rintro e w2 ⟨ao, cap, rfl, hcells, hrd, hg⟩))
  have hw2 : w.heap.size + 1 ≤ w2.heap.size := by have := hg.size; simpa using this
  obtain ⟨w3, hw3⟩ : ∃ w3, w3 = w2.alloc (.cells #[] 9) := ⟨_, rfl⟩
  have own3 : w3.ownsRow w2.heap.size 9 1 (.slice (some ⟨w2.heap.size, 0, none⟩) 0 0) 0 [] := hw3 ▸ owns_empty w2 _
  have bel3 : Below w2.heap.size w2 w3 := hw3 ▸ (Below.refl _ _).alloc (Nat.le_refl _) _
  rw [← hw3]
  clear hw3
  go_loopw [7, 8, 9] (fun at8 v o wr => ∃ (done : List (List UInt8)) (a k : Nat), at8 = .int .i64 a ∧ o = .bool false ∧ wr.ownsRow w2.heap.size 9 1 v done.length (strs done) ∧ Below w2.heap.size w2 wr ∧
      a ≤ t.length ∧ t.length - a ≤ k ∧ done.length * 4 ≤ a ∧ Hid ((fs, rst, b) = (done ++ (parse k (t.drop a)).1, (parse k (t.drop a)).2))) (fun at8 _ _ _ => t.length - (intOf at8).toNat)
  case atStart =>
    refine ⟨[], 0, t.length, rfl, rfl, own3, bel3, Nat.zero_le _, by omega, by simp, ?_⟩
    show _ = _
    rw [List.drop_zero, hF.out]
    rfl
  case round =>
    obtain ⟨done, a, k, rfl, rfl, hown, hbel, ha, hk, hn, hP⟩ := hrel
    have hlen : (t.drop a).length = t.length - a := List.length_drop
    have hwl : w2.heap.size ≤ wr.heap.size := hbel.size
    have hcase : (¬ a + 4 ≤ t.length) ∨ (a + 4 ≤ t.length ∧ 30000 < wide ((t.drop a).take 4)) ∨ (a + 4 ≤ t.length ∧ ¬ 30000 < wide ((t.drop a).take 4) ∧ t.length < a + 4 + wide ((t.drop a).take 4)) ∨
        (a + 4 ≤ t.length ∧ ¬ 30000 < wide ((t.drop a).take 4) ∧ a + 4 + wide ((t.drop a).take 4) ≤ t.length) := by omega
    have hheld : wr.cell? ⟨w.heap.size, 0, none⟩ = some (.string (st rst)) := (hbel.cell (p := ⟨w.heap.size, 0, none⟩) (by show w.heap.size < w2.heap.size; omega)).trans hrd.held
    rcases hcase with h4 | ⟨h4, hbig⟩ | ⟨h4, hbig, hcut⟩ | ⟨h4, hbig, hcut⟩
    case' inr.inl | inr.inr.inl | inr.inr.inr =>
      have h4' : (a : Int) + 4 ≤ t.length := by omega
      have i0 : a < t.length := by omega
      have i1 : a + 1 < t.length := by omega
      have i2 : a + 2 < t.length := by omega
      have i3 : a + 3 < t.length := by omega
      have w1 : IntKind.i64.wrap ((a : Int) + 1) = (a : Int) + 1 := by simp [IntKind.wrap, IntKind.bits, IntKind.signed]; omega
      have w2' : IntKind.i64.wrap ((a : Int) + 2) = (a : Int) + 2 := by simp [IntKind.wrap, IntKind.bits, IntKind.signed]; omega
      have w3 : IntKind.i64.wrap ((a : Int) + 3) = (a : Int) + 3 := by simp [IntKind.wrap, IntKind.bits, IntKind.signed]; omega
      have j1 : (a : Int) + 1 < t.length := by omega
      have j2 : (a : Int) + 2 < t.length := by omega
      have j3 : (a : Int) + 3 < t.length := by omega
      have z1 : 0 ≤ (a : Int) + 1 := by omega
      have z2 : 0 ≤ (a : Int) + 2 := by omega
      have z3 : 0 ≤ (a : Int) + 3 := by omega
      have n1 : ((a : Int) + 1).toNat = a + 1 := by omega
      have n2 : ((a : Int) + 2).toNat = a + 2 := by omega
      have n3 : ((a : Int) + 3).toNat = a + 3 := by omega
      have hN := or4_at t a i3
      generalize hy0 : IntKind.i64.wrap (IntKind.i64.wrap (((st t)[a]'(st_lt (by omega))).toNat : Int) * 16777216) = y0 at hN
      generalize hy1 : IntKind.i64.wrap (IntKind.i64.wrap (((st t)[a + 1]'(st_lt (by omega))).toNat : Int) * 65536) = y1 at hN
      generalize hy2 : IntKind.i64.wrap (IntKind.i64.wrap (((st t)[a + 2]'(st_lt (by omega))).toNat : Int) * 256) = y2 at hN
      generalize hy3 : IntKind.i64.wrap (((st t)[a + 3]'(st_lt (by omega))).toNat : Int) = y3 at hN
      generalize hy4 : bits BinOp.or IntKind.i64 y0 y1 = y4 at hN
      generalize hy5 : bits BinOp.or IntKind.i64 y4 y2 = y5 at hN
    case inr.inr.inr =>
      have hbig' : ¬ 30000 < (wide ((t.drop a).take 4) : Int) := by omega
      have hcut' : ¬ (t.length : Int) < (a : Int) + 4 + (wide ((t.drop a).take 4) : Int) := by omega
      obtain ⟨j, hkj, hpj⟩ := parse_one (h := t.drop a) (by omega) hbig (by omega) (k := k) (by omega)
      have hpj := Lib.hid hpj
      have hx : (⟨t.toArray⟩ : ByteArray).extract (a + 4) (a + 4 + wide ((t.drop a).take 4)) = ⟨(((t.drop a).drop 4).take (wide ((t.drop a).take 4))).toArray⟩ := by
        apply ByteArray.ext
        simp [ByteArray.data_extract, List.extract_eq_take_drop, Nat.add_sub_cancel_left]
      generalize hNN : wide ((t.drop a).take 4) = N at *
      generalize hX : ((t.drop a).drop 4).take N = X at *
      have m0 : 0 ≤ (a : Int) + 4 := by omega
      have m1 : (a : Int) + 4 ≤ (a : Int) + 4 + N := by omega
      have m2 : (a : Int) + 4 + (N : Int) ≤ t.length := by omega
      have m3 : ((a : Int) + 4).toNat = a + 4 := by omega
      have m4 : ((a : Int) + 4 + (N : Int)).toNat = a + 4 + N := by omega
      have m5 : IntKind.i64.wrap ((a : Int) + 4) = (a : Int) + 4 := wrap_i64_id _ (by omega) (by omega)
      have m6 : IntKind.i64.wrap ((a : Int) + 4 + (N : Int)) = (a : Int) + 4 + (N : Int) := wrap_i64_id _ (by omega) (by omega)
      go_wp2
      refine wp_region_flow [] (by kernel_rfl) (by kernel_rfl) ?_
      repeat ((refine wpFlow_steps (fun K hK => ?_); go_simp; first | (with_reducible refine hK _ ?_; clear hK K) | (apply Exists.intro; (with_reducible refine ⟨fun _ => ⟨?_, _, rfl⟩, hK _ ?_⟩); (· exact rfl); clear hK K) | (apply Exists.intro; (with_reducible refine ⟨fun _ => ⟨_, rfl⟩, hK _ ?_⟩); clear hK K) | (apply Exists.intro; (with_reducible refine ⟨fun _ => ?_, hK _ ?_⟩); (· (with_reducible (fail))); clear hK K)))
      (refine wpFlow_nil ?_; rintro w1 ⟨q0, hq0⟩; have hb := In.h q0; rw [← hq0] at hb; clear hq0 q0; (first | ((with_reducible obtain ⟨p, hw''⟩ := In.of2 p hb); subst hw'') | (obtain ⟨p, hw''⟩ := In.of hb; subst hw'')); go_simp; intros)
      have own5 := own_below hown hb
      have bel5 := hbel.trans (hb.mono hwl)
      generalize p.w = w5 at *
      clear hb hown hbel
      go_wp2_with (at_builtin; refine wpList_append_own _ rfl _ _ 34 rfl w2.heap.size 9 i0' (.string ByteArray.empty) 1 16 Try.underlying34 hi hz0 hz1 hz2 rfl (by decide) _ _ _ rfl (own5.alloc _) ⟨w5.heap.size, 0, none⟩ 1 1 [.string (st X)] rfl rfl ?c1 ?c2 ?c3 ?c4 ?c5 ?_)
      case c1 =>
        intro j u hj
        match j, hj with
        | 0, hj => simp at hj; subst hj; simp [Addr.add]
      case c2 => intro u hu; simp at hu; subst hu; rfl
      case c3 => unfold maxLen; omega
      case c4 => omega
      case c5 => have := bel5.size; simp; omega
      intro v' w6 hown' hgrow _
      have bel6 := World.ownsRow_step bel5 own5 hgrow
      clear hgrow own5
      iterate 20 go_step
      refine ⟨?_, ?measure⟩
      iterate 20 apply Exists.intro
      iterate 20 apply Exists.intro
      iterate 18 apply Exists.intro
      refine ⟨?rel, rfl⟩
      case rel =>
        refine ⟨done ++ [X], a + 4 + N, j, rfl, rfl, ?_, bel6, hcut, by omega, by rw [List.length_append]; simp; omega, ?_⟩
        · simpa using hown'
        · show _ = _
          rw [hP.out, hpj.out]
          simp [List.drop_drop, Nat.add_assoc]
      case measure => simp [intOf]; omega
    case' inl =>
      obtain ⟨hfs, hbb, hE0, hrst⟩ : fs = done ∧ b = false ∧ E = 0 ∧ rst.length = t.length - a := by
        have h1 := hP.out
        rw [parse_short (by omega)] at h1
        simp at h1
        obtain ⟨h1, h2, h3⟩ := h1
        exact ⟨h1, h3, by rw [hE.out, h3]; rfl, by rw [h2]; exact hlen⟩
    case' inr.inl =>
      obtain ⟨hfs, hbb, hE0⟩ : fs = done ∧ b = true ∧ E = 3 := by
        have h1 := hP.out
        rw [parse_big (by omega) hbig (by omega)] at h1
        simp at h1
        obtain ⟨h1, h2, h3⟩ := h1
        exact ⟨h1, h3, by rw [hE.out, h3]; rfl⟩
    case' inr.inr.inl =>
      obtain ⟨hfs, hbb, hE0, hrst⟩ : fs = done ∧ b = false ∧ E = 0 ∧ rst.length = t.length - a := by
        have h1 := hP.out
        rw [parse_cut (by omega) hbig (by omega) (by omega)] at h1
        simp at h1
        obtain ⟨h1, h2, h3⟩ := h1
        exact ⟨h1, h3, by rw [hE.out, h3]; rfl, by rw [h2]; exact hlen⟩
    case' inl =>
      have h4' : ¬ (a : Int) + 4 ≤ t.length := by omega
      have m5 : IntKind.i64.wrap ((a : Int) + 4) = (a : Int) + 4 := wrap_i64_id _ (by omega) (by omega)
      have own5 := hown
      have bel5 := hbel
    case' inr.inl =>
      have hbig' : 30000 < (wide ((t.drop a).take 4) : Int) := by omega
      go_wp2
      refine wp_region_flow [] (by kernel_rfl) (by kernel_rfl) ?_
      repeat ((refine wpFlow_steps (fun K hK => ?_); go_simp; first | (with_reducible refine hK _ ?_; clear hK K) | (apply Exists.intro; (with_reducible refine ⟨fun _ => ⟨?_, _, rfl⟩, hK _ ?_⟩); (· exact rfl); clear hK K) | (apply Exists.intro; (with_reducible refine ⟨fun _ => ⟨_, rfl⟩, hK _ ?_⟩); clear hK K) | (apply Exists.intro; (with_reducible refine ⟨fun _ => ?_, hK _ ?_⟩); (· (with_reducible (fail))); clear hK K)))
      (refine wpFlow_nil ?_; rintro w1 ⟨q0, hq0⟩; have hb := In.h q0; rw [← hq0] at hb; clear hq0 q0; (first | ((with_reducible obtain ⟨p, hw''⟩ := In.of2 p hb); subst hw'') | (obtain ⟨p, hw''⟩ := In.of hb; subst hw'')); go_simp; intros)
      have own5 := own_below hown hb
      have bel5 := hbel.trans (hb.mono hwl)
    case' inr.inr.inl =>
      have hbig' : ¬ 30000 < (wide ((t.drop a).take 4) : Int) := by omega
      have hcut' : (t.length : Int) < (a : Int) + 4 + (wide ((t.drop a).take 4) : Int) := by omega
      have m5 : IntKind.i64.wrap ((a : Int) + 4) = (a : Int) + 4 := wrap_i64_id _ (by omega) (by omega)
      generalize hNN : wide ((t.drop a).take 4) = N at *
      have m6 : IntKind.i64.wrap ((a : Int) + 4 + (N : Int)) = (a : Int) + 4 + (N : Int) := wrap_i64_id _ (by omega) (by omega)
      go_wp2
      refine wp_region_flow [] (by kernel_rfl) (by kernel_rfl) ?_
      repeat ((refine wpFlow_steps (fun K hK => ?_); go_simp; first | (with_reducible refine hK _ ?_; clear hK K) | (apply Exists.intro; (with_reducible refine ⟨fun _ => ⟨?_, _, rfl⟩, hK _ ?_⟩); (· exact rfl); clear hK K) | (apply Exists.intro; (with_reducible refine ⟨fun _ => ⟨_, rfl⟩, hK _ ?_⟩); clear hK K) | (apply Exists.intro; (with_reducible refine ⟨fun _ => ?_, hK _ ?_⟩); (· (with_reducible (fail))); clear hK K)))
      (refine wpFlow_nil ?_; rintro w1 ⟨q0, hq0⟩; have hb := In.h q0; rw [← hq0] at hb; clear hq0 q0; (first | ((with_reducible obtain ⟨p, hw''⟩ := In.of2 p hb); subst hw'') | (obtain ⟨p, hw''⟩ := In.of hb; subst hw'')); go_simp; intros)
      have own5 := own_below hown hb
      have bel5 := hbel.trans (hb.mono hwl)
    all_goals
      subst hfs hbb hE0
      obtain ⟨ao2, cap2, hv, _, hk2⟩ := owns_read own5
      subst hv
      have hlf : fs.length ≤ 300 := by omega
      go_wp2_with ((with_reducible refine (awake_c _).mono ?_); rintro e w7 ⟨rfl, hb7⟩; have bel7 := bel5.trans (hb7.mono bel5.size); have hheld7 := (bel7.cell (p := ⟨w.heap.size, 0, none⟩) (by show w.heap.size < w2.heap.size; omega)).trans hrd.held)
    all_goals
      try have hsub : IntKind.i64.wrap ((t.length : Int) - (a : Int)) = (rst.length : Int) := by rw [wrap_i64_id _ (by omega) (by omega)]; omega
      try go_wp2_with ((with_reducible refine (held_c _ rst _ hheld7 (by omega)).mono ?_); rintro e w8 ⟨rfl, rfl⟩)
    all_goals
      have R1 : ∀ k x, fs[k]? = some x → ∃ g, ao = some ⟨g, 0, none⟩ ∧ g < w7.heap.size ∧ w7.cell? ⟨g, k, none⟩ = some (.string (st x)) := fun k x hx => by
        obtain ⟨g, h1, h2, h3⟩ := hcells k x hx
        exact ⟨g, h1, Nat.lt_of_lt_of_le h2 bel7.size, (bel7.cell (p := ⟨g, k, none⟩) h2).trans h3⟩
      have R2 : ∀ k x, fs[k]? = some x → ∃ g, ao2 = some ⟨g, 0, none⟩ ∧ g < w7.heap.size ∧ w7.cell? ⟨g, k, none⟩ = some (.string (st x)) := fun k x hx => by
        obtain ⟨g, h1, _, h2, h3⟩ := hk2 k (.string (st x)) (by simp [hx])
        exact ⟨g, h1, Nat.lt_of_lt_of_le h2 hb7.size, (hb7.cell (p := ⟨g, k, none⟩) h2).trans h3⟩
      have hbw : Below w.heap.size w w7 := (below_grown ((Below.refl _ _).alloc (Nat.le_refl _) _) (Nat.le_refl _) hg).trans (bel7.mono (by omega))
      clear hcells hk2 hown own5 bel7 hb7 bel5 hheld7
      go_loopw [11] (fun v w8 => ∃ i n : Nat, v = .int .i64 i ∧ w8 = w7.drewN n ∧ i ≤ fs.length) (fun v _ => fs.length - (intOf v).toNat)
      case atStart => exact ⟨0, 0, rfl, rfl, Nat.zero_le _⟩
      case round =>
        obtain ⟨i, n, rfl, rfl, hi⟩ := hrel
        by_cases hlt : i < fs.length
        · have hlt' : (i : Int) < fs.length := by omega
          obtain ⟨g1, rfl, l1, r1⟩ := R1 i fs[i] (by simp)
          obtain ⟨g2, rfl, l2, r2⟩ := R2 i fs[i] (by simp)
          have wi : IntKind.i64.wrap ((i : Int) + 1) = (i : Int) + 1 := wrap_i64_id _ (by omega) (by omega)
          go_wp2
          go_quiet (fail)
          go_wp2
          go_roundw
          case rel => exact ⟨i + 1, _, rfl, rfl, hlt⟩
          case measure => simp [intOf]; omega
        · have hge : ¬ (i : Int) < fs.length := by omega
          go_wp2_with (first | ((with_reducible refine (feed_nil_c t _).mono ?_); rintro e w9 ⟨rfl, rfl⟩) | ((with_reducible refine (held_nil_c _).mono ?_); rintro e w9 ⟨rfl, rfl⟩))
          go_ret
          exact ⟨rfl, ⟨hbw.os, hbw.tape, hbw.output, hbw.size, hbw.block⟩⟩
end Go.Proofs.Ytijkliffgihglaa
