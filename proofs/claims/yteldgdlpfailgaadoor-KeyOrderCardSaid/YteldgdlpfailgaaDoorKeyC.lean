
/-
  KeySpans: the walk.
-/
import Derived.Test.YteldgdlpfailgaaDoorKeyB
set_option linter.unusedSimpArgs false
set_option linter.unusedVariables false
namespace Go.Proofs.YteldgdlpfailgaaDoor
open Go.RowKit

theorem take_st (s : List UInt8) (i : Nat) : (⟨s.toArray⟩ : ByteArray).extract 0 i = ⟨(s.take i).toArray⟩ := by apply ByteArray.ext; simp [ByteArray.data_extract]
set_option maxRecDepth 8000 in
set_option maxHeartbeats 1000000 in
theorem begins_c (s k : List UInt8) (b : Nat) (w : World) (hb : b < w.heap.size) (hc : w.cell? ⟨b, 0, none⟩ = some (.string (st s))) (hs : s.length ≤ 50) (hk : k.length ≤ 100) :
    Calls Tryd.prog 12 #[.string (st k), .pointer (some ⟨b, 0, none⟩)] w fun e w' => e = .returned (.bool (decide (s.length ≤ k.length) && (k.take s.length == s))) ∧ Below w.heap.size w w' := by
  have hex := take_st k s.length
  by_cases hle : s.length ≤ k.length
  · have hle' : (s.length : Int) ≤ k.length := by omega
    have hR := Lib.hid (show (decide (s.length ≤ k.length) && (k.take s.length == s)) = (k.take s.length == s) by simp [hle])
    clear hs hk
    generalize k.take s.length = T at *
    go_enter Tryd.func12, Tryd.ntmps12
    go_upto_region 1 with fail
    (refine wp_region_flow [] (by kernel_rfl) (by kernel_rfl) ?_; (repeat (((with_reducible refine wpFlow_steps ?_); intro K hK; go_simp; first | (with_reducible refine hK _ ?_; clear hK K) | (apply Exists.intro; (with_reducible refine ⟨fun _ => ⟨?_, _, rfl⟩, hK _ ?_⟩); (· exact rfl); clear hK K) | (apply Exists.intro; (with_reducible refine ⟨fun _ => ⟨_, rfl⟩, hK _ ?_⟩); clear hK K) | (apply Exists.intro; (with_reducible refine ⟨fun _ => ?_, hK _ ?_⟩); (· (with_reducible (fail))); clear hK K)))); (refine wpFlow_nil ?_; rintro w1 ⟨q0, hq0⟩; have hb := In.h q0; rw [← hq0] at hb; clear hq0 q0; (first | ((with_reducible obtain ⟨p, hw''⟩ := In.of2 p hb); subst hw'') | (obtain ⟨p, hw''⟩ := In.of hb; subst hw'')); go_simp; intros))
    go_wp2_with fail
    go_ret
    exact ⟨ret_bool (by first | rfl | exact hR.out.symm | (rw [hR.out] <;> simp)), p.back (Below.refl _ _)⟩
  · have hle' : ¬ (s.length : Int) ≤ k.length := by omega
    have hR := Lib.hid (show (decide (s.length ≤ k.length) && (k.take s.length == s)) = false by simp [hle])
    clear hs hk hex
    go_enter Tryd.func12, Tryd.ntmps12
    go_upto_region 1 with fail
    (refine wp_region_flow [] (by kernel_rfl) (by kernel_rfl) ?_; (repeat (((with_reducible refine wpFlow_steps ?_); intro K hK; go_simp; first | (with_reducible refine hK _ ?_; clear hK K) | (apply Exists.intro; (with_reducible refine ⟨fun _ => ⟨?_, _, rfl⟩, hK _ ?_⟩); (· exact rfl); clear hK K) | (apply Exists.intro; (with_reducible refine ⟨fun _ => ⟨_, rfl⟩, hK _ ?_⟩); clear hK K) | (apply Exists.intro; (with_reducible refine ⟨fun _ => ?_, hK _ ?_⟩); (· (with_reducible (fail))); clear hK K)))); (refine wpFlow_nil ?_; rintro w1 ⟨q0, hq0⟩; have hb := In.h q0; rw [← hq0] at hb; clear hq0 q0; (first | ((with_reducible obtain ⟨p, hw''⟩ := In.of2 p hb); subst hw'') | (obtain ⟨p, hw''⟩ := In.of hb; subst hw'')); go_simp; intros))
    go_wp2_with fail
    go_ret
    exact ⟨ret_bool (by first | rfl | exact hR.out.symm | (rw [hR.out] <;> simp)), p.back (Below.refl _ _)⟩
set_option maxRecDepth 8000 in
theorem id_c (n N : Int) (hN : IntKind.u64.wrap n = N) (h0 : 0 ≤ N) (w : World) : Calls Tryd.prog 14 #[.int .i64 n] w fun e w' => e = .returned (.string (st (eightL N))) ∧ Below w.heap.size w w' := by
  have ce : ∀ w, Calls Tryd.prog 22 #[.int .u64 N] w fun e w' => e = .returned (.string (st (eightL N))) ∧ Below w.heap.size w w' := fun w => eight_c N w h0
  go_enter Tryd.func14, Tryd.ntmps14
  go_wp2_with ((with_reducible refine (ce _).mono ?_); rintro e w1 ⟨rfl, hb1⟩; (first | ((with_reducible obtain ⟨p, hw''⟩ := In.of2 p hb1); subst hw'') | (obtain ⟨p, hw''⟩ := In.of hb1; subst hw'')))
  go_ret
  exact ⟨rfl, p.back (Below.refl _ _)⟩
set_option maxRecDepth 8000 in
set_option maxHeartbeats 4000000 in
theorem keySpans_in (s k : List UInt8) (n : Int) (w : World) (hs : s.length ≤ 50) (hk : k.length ≤ 100) (hn : I64 n) :
    ∀ t u : List UInt8, t.length ≤ maxLen → u.length ≤ maxLen → (if 50 < t.length then t.take 50 else t) = s → (if 100 < u.length then u.take 100 else u) = k →
    Calls Tryd.prog 4 #[.string (st t), .string (st u), .int .i64 n] w fun e w' => e = .returned (.bool true) ∧ Below w.heap.size w w' := by
  intro t u ht hu hts huk
  unfold maxLen at ht hu
  obtain ⟨N, hN⟩ : ∃ N, IntKind.u64.wrap n = N := ⟨_, rfl⟩
  have hN0 : 0 ≤ N ∧ N ≤ 18446744073709551615 := by rw [← hN, wrap_u64]; omega
  have cb : ∀ w, Calls Tryd.prog 11 #[.string (st s)] w (BeginEnds s w) := fun w => begin_c s w (by omega)
  unfold BeginEnds at cb
  have aw := fun w => awake_c w
  have cid := fun w => id_c n N hN hN0.1 w
  have ce : ∀ w, Calls Tryd.prog 15 #[.int .u64 N] w fun e w' => e = .returned (.string (st (eightL N))) ∧ Below w.heap.size w w' := fun w => reight_c N w hN0.1 hN0.2
  have c12 := fun b w hb hc => begins_c s k b w hb hc hs hk
  have hj := in_span s k
  have hj2 : inB s (endL s s.length) (s ++ k) = true := by rw [in_span]; simp
  have hj3 : inB s [] k = !lessB k s := by unfold inB; simp
  have ci1 : ∀ w, Calls Tryd.prog 13 #[spanV s (endL s s.length), .string (st k)] w fun e w' => e = .returned (.bool (decide (s.length ≤ k.length) && (k.take s.length == s))) ∧ Below w.heap.size w w' := fun w => hj ▸ in_c s (endL s s.length) k w
  have ci2 : ∀ w, Calls Tryd.prog 13 #[spanV s (endL s s.length), .string (st (s ++ k))] w fun e w' => e = .returned (.bool true) ∧ Below w.heap.size w w' := fun w => hj2 ▸ in_c s (endL s s.length) (s ++ k) w
  have ci3 : ∀ w, Calls Tryd.prog 13 #[spanV s [], .string (st k)] w fun e w' => e = .returned (.bool (!lessB k s)) ∧ Below w.heap.size w w' := fun w => hj3 ▸ in_c s [] k w
  have hsm : ¬ 9223372036854775807 < s.length + k.length := by omega
  obtain ⟨q, hq⟩ : ∃ q, lessB k s = q := ⟨_, rfl⟩
  rw [hq] at ci3
  clear hj hj2 hj3 hN0 hn
  generalize (decide (s.length ≤ k.length) && (k.take s.length == s)) = B at *
  generalize endL s s.length = E at *
  generalize eightL N = L8 at *
  by_cases h1 : 50 < t.length
  · have h1' : (50 : Int) < t.length := by omega
    have h1l : (50 : Int) ≤ t.length := by omega
    rw [if_pos h1] at hts
    have hx1 := take_st t 50
    rw [hts] at hx1
    by_cases h2 : 100 < u.length
    · have h2' : (100 : Int) < u.length := by omega
      have h2l : (100 : Int) ≤ u.length := by omega
      rw [if_pos h2] at huk
      have hx2 := take_st u 100
      rw [huk] at hx2
      go_enter Tryd.func4, Tryd.ntmps4
      go_upto_region 5 with fail
      obtain ⟨w1, hw1⟩ : ∃ w1, w1 = w.alloc (.cells #[.string (st s)] 9) := ⟨_, rfl⟩
      have bk : Below w.heap.size w w1 := hw1 ▸ below_alloc w _
      have x0 : w1.cell? ⟨w.heap.size, 0, none⟩ = some (.string (st s)) := by rw [hw1]; simp [go_sem]
      have x6 : w.heap.size < w1.heap.size := by rw [hw1]; simp
      rw [show w.alloc (.cells #[.string ⟨s.toArray⟩] 9) = w1 from by rw [hw1] <;> rfl]
      clear hw1
      go_upto_region 6 with ((with_reducible refine (cb _).mono ?_); rintro e w2 ⟨rfl, hb2⟩)
      obtain ⟨w3, hw3⟩ : ∃ w3, w3 = w2.alloc (.cells #[.string (st s), .string (st E)] 26) := ⟨_, rfl⟩
      have k3 : Below w2.heap.size w2 w3 := hw3 ▸ below_alloc w2 _
      have g0 : w3.cell? ⟨w2.heap.size, 0, none⟩ = some (.string (st s)) := by rw [hw3]; simp [go_sem]
      have g1 : w3.cell? ⟨w2.heap.size, 1, none⟩ = some (.string (st E)) := by rw [hw3]; simp [go_sem]
      have g6 : w2.heap.size < w3.heap.size := by rw [hw3]; simp
      have k13 := hb2.trans (k3.mono hb2.size)
      have x0 := (k13.cell (p := ⟨w.heap.size, 0, none⟩) x6).trans x0
      have x6 := Nat.lt_of_lt_of_le x6 k13.size
      have B3 := bk.trans (k13.mono bk.size)
      rw [← hw3]
      clear hw3 hb2 k3 k13 bk cb
      have d12 := fun p : In w3 => c12 w.heap.size p.w (Nat.lt_of_lt_of_le x6 p.h.size) ((p.h.cell (p := ⟨w.heap.size, 0, none⟩) x6).trans x0)
      clear c12
      generalize w2.heap.size = g at *
      go_upto_region 7 with fail
      try simp only [List.append_eq, List.cons_append, List.nil_append]
      refine wp_region_flow [] (by kernel_rfl) (by kernel_rfl) ?_
      repeat (((with_reducible refine wpFlow_steps ?_); intro K hK; go_simp; first | (with_reducible refine hK _ ?_; clear hK K) | (apply Exists.intro; (with_reducible refine ⟨fun _ => ⟨?_, _, rfl⟩, hK _ ?_⟩); (· exact rfl); clear hK K) | (apply Exists.intro; (with_reducible refine ⟨fun _ => ⟨_, rfl⟩, hK _ ?_⟩); clear hK K) | (apply Exists.intro; (with_reducible refine ⟨fun _ => ?_, hK _ ?_⟩); (· (with_reducible (first | exact aw _ | exact ci1 _ | exact ci2 _ | exact ci3 _ | exact cid _ | exact ce _ | exact d12 _))); clear hK K)))
      (refine wpFlow_nil ?_; rintro w1 ⟨q0, hq0⟩; have hb := In.h q0; rw [← hq0] at hb; clear hq0 q0; (first | ((with_reducible obtain ⟨p, hw''⟩ := In.of2 p hb); subst hw'') | (obtain ⟨p, hw''⟩ := In.of hb; subst hw'')); go_simp; intros)
      go_wp2_with fail
      go_ret
      exact ⟨rfl, p.back B3⟩
    · have h2' : ¬ (100 : Int) < u.length := by omega
      rw [if_neg h2] at huk
      have huk' := huk.symm
      clear huk
      subst huk'
      go_enter Tryd.func4, Tryd.ntmps4
      go_upto_region 5 with fail
      obtain ⟨w1, hw1⟩ : ∃ w1, w1 = w.alloc (.cells #[.string (st s)] 9) := ⟨_, rfl⟩
      have bk : Below w.heap.size w w1 := hw1 ▸ below_alloc w _
      have x0 : w1.cell? ⟨w.heap.size, 0, none⟩ = some (.string (st s)) := by rw [hw1]; simp [go_sem]
      have x6 : w.heap.size < w1.heap.size := by rw [hw1]; simp
      rw [show w.alloc (.cells #[.string ⟨s.toArray⟩] 9) = w1 from by rw [hw1] <;> rfl]
      clear hw1
      go_upto_region 6 with ((with_reducible refine (cb _).mono ?_); rintro e w2 ⟨rfl, hb2⟩)
      obtain ⟨w3, hw3⟩ : ∃ w3, w3 = w2.alloc (.cells #[.string (st s), .string (st E)] 26) := ⟨_, rfl⟩
      have k3 : Below w2.heap.size w2 w3 := hw3 ▸ below_alloc w2 _
      have g0 : w3.cell? ⟨w2.heap.size, 0, none⟩ = some (.string (st s)) := by rw [hw3]; simp [go_sem]
      have g1 : w3.cell? ⟨w2.heap.size, 1, none⟩ = some (.string (st E)) := by rw [hw3]; simp [go_sem]
      have g6 : w2.heap.size < w3.heap.size := by rw [hw3]; simp
      have k13 := hb2.trans (k3.mono hb2.size)
      have x0 := (k13.cell (p := ⟨w.heap.size, 0, none⟩) x6).trans x0
      have x6 := Nat.lt_of_lt_of_le x6 k13.size
      have B3 := bk.trans (k13.mono bk.size)
      rw [← hw3]
      clear hw3 hb2 k3 k13 bk cb
      have d12 := fun p : In w3 => c12 w.heap.size p.w (Nat.lt_of_lt_of_le x6 p.h.size) ((p.h.cell (p := ⟨w.heap.size, 0, none⟩) x6).trans x0)
      clear c12
      generalize w2.heap.size = g at *
      go_upto_region 7 with fail
      try simp only [List.append_eq, List.cons_append, List.nil_append]
      refine wp_region_flow [] (by kernel_rfl) (by kernel_rfl) ?_
      repeat (((with_reducible refine wpFlow_steps ?_); intro K hK; go_simp; first | (with_reducible refine hK _ ?_; clear hK K) | (apply Exists.intro; (with_reducible refine ⟨fun _ => ⟨?_, _, rfl⟩, hK _ ?_⟩); (· exact rfl); clear hK K) | (apply Exists.intro; (with_reducible refine ⟨fun _ => ⟨_, rfl⟩, hK _ ?_⟩); clear hK K) | (apply Exists.intro; (with_reducible refine ⟨fun _ => ?_, hK _ ?_⟩); (· (with_reducible (first | exact aw _ | exact ci1 _ | exact ci2 _ | exact ci3 _ | exact cid _ | exact ce _ | exact d12 _))); clear hK K)))
      (refine wpFlow_nil ?_; rintro w1 ⟨q0, hq0⟩; have hb := In.h q0; rw [← hq0] at hb; clear hq0 q0; (first | ((with_reducible obtain ⟨p, hw''⟩ := In.of2 p hb); subst hw'') | (obtain ⟨p, hw''⟩ := In.of hb; subst hw'')); go_simp; intros)
      go_wp2_with fail
      go_ret
      exact ⟨rfl, p.back B3⟩
  · have h1' : ¬ (50 : Int) < t.length := by omega
    rw [if_neg h1] at hts
    have hts' := hts.symm
    clear hts
    subst hts'
    by_cases h2 : 100 < u.length
    · have h2' : (100 : Int) < u.length := by omega
      have h2l : (100 : Int) ≤ u.length := by omega
      rw [if_pos h2] at huk
      have hx2 := take_st u 100
      rw [huk] at hx2
      go_enter Tryd.func4, Tryd.ntmps4
      go_upto_region 5 with fail
      obtain ⟨w1, hw1⟩ : ∃ w1, w1 = w.alloc (.cells #[.string (st s)] 9) := ⟨_, rfl⟩
      have bk : Below w.heap.size w w1 := hw1 ▸ below_alloc w _
      have x0 : w1.cell? ⟨w.heap.size, 0, none⟩ = some (.string (st s)) := by rw [hw1]; simp [go_sem]
      have x6 : w.heap.size < w1.heap.size := by rw [hw1]; simp
      rw [show w.alloc (.cells #[.string ⟨s.toArray⟩] 9) = w1 from by rw [hw1] <;> rfl]
      clear hw1
      go_upto_region 6 with ((with_reducible refine (cb _).mono ?_); rintro e w2 ⟨rfl, hb2⟩)
      obtain ⟨w3, hw3⟩ : ∃ w3, w3 = w2.alloc (.cells #[.string (st s), .string (st E)] 26) := ⟨_, rfl⟩
      have k3 : Below w2.heap.size w2 w3 := hw3 ▸ below_alloc w2 _
      have g0 : w3.cell? ⟨w2.heap.size, 0, none⟩ = some (.string (st s)) := by rw [hw3]; simp [go_sem]
      have g1 : w3.cell? ⟨w2.heap.size, 1, none⟩ = some (.string (st E)) := by rw [hw3]; simp [go_sem]
      have g6 : w2.heap.size < w3.heap.size := by rw [hw3]; simp
      have k13 := hb2.trans (k3.mono hb2.size)
      have x0 := (k13.cell (p := ⟨w.heap.size, 0, none⟩) x6).trans x0
      have x6 := Nat.lt_of_lt_of_le x6 k13.size
      have B3 := bk.trans (k13.mono bk.size)
      rw [← hw3]
      clear hw3 hb2 k3 k13 bk cb
      have d12 := fun p : In w3 => c12 w.heap.size p.w (Nat.lt_of_lt_of_le x6 p.h.size) ((p.h.cell (p := ⟨w.heap.size, 0, none⟩) x6).trans x0)
      clear c12
      generalize w2.heap.size = g at *
      go_upto_region 7 with fail
      try simp only [List.append_eq, List.cons_append, List.nil_append]
      refine wp_region_flow [] (by kernel_rfl) (by kernel_rfl) ?_
      repeat (((with_reducible refine wpFlow_steps ?_); intro K hK; go_simp; first | (with_reducible refine hK _ ?_; clear hK K) | (apply Exists.intro; (with_reducible refine ⟨fun _ => ⟨?_, _, rfl⟩, hK _ ?_⟩); (· exact rfl); clear hK K) | (apply Exists.intro; (with_reducible refine ⟨fun _ => ⟨_, rfl⟩, hK _ ?_⟩); clear hK K) | (apply Exists.intro; (with_reducible refine ⟨fun _ => ?_, hK _ ?_⟩); (· (with_reducible (first | exact aw _ | exact ci1 _ | exact ci2 _ | exact ci3 _ | exact cid _ | exact ce _ | exact d12 _))); clear hK K)))
      (refine wpFlow_nil ?_; rintro w1 ⟨q0, hq0⟩; have hb := In.h q0; rw [← hq0] at hb; clear hq0 q0; (first | ((with_reducible obtain ⟨p, hw''⟩ := In.of2 p hb); subst hw'') | (obtain ⟨p, hw''⟩ := In.of hb; subst hw'')); go_simp; intros)
      go_wp2_with fail
      go_ret
      exact ⟨rfl, p.back B3⟩
    · have h2' : ¬ (100 : Int) < u.length := by omega
      rw [if_neg h2] at huk
      have huk' := huk.symm
      clear huk
      subst huk'
      go_enter Tryd.func4, Tryd.ntmps4
      go_upto_region 5 with fail
      obtain ⟨w1, hw1⟩ : ∃ w1, w1 = w.alloc (.cells #[.string (st s)] 9) := ⟨_, rfl⟩
      have bk : Below w.heap.size w w1 := hw1 ▸ below_alloc w _
      have x0 : w1.cell? ⟨w.heap.size, 0, none⟩ = some (.string (st s)) := by rw [hw1]; simp [go_sem]
      have x6 : w.heap.size < w1.heap.size := by rw [hw1]; simp
      rw [show w.alloc (.cells #[.string ⟨s.toArray⟩] 9) = w1 from by rw [hw1] <;> rfl]
      clear hw1
      go_upto_region 6 with ((with_reducible refine (cb _).mono ?_); rintro e w2 ⟨rfl, hb2⟩)
      obtain ⟨w3, hw3⟩ : ∃ w3, w3 = w2.alloc (.cells #[.string (st s), .string (st E)] 26) := ⟨_, rfl⟩
      have k3 : Below w2.heap.size w2 w3 := hw3 ▸ below_alloc w2 _
      have g0 : w3.cell? ⟨w2.heap.size, 0, none⟩ = some (.string (st s)) := by rw [hw3]; simp [go_sem]
      have g1 : w3.cell? ⟨w2.heap.size, 1, none⟩ = some (.string (st E)) := by rw [hw3]; simp [go_sem]
      have g6 : w2.heap.size < w3.heap.size := by rw [hw3]; simp
      have k13 := hb2.trans (k3.mono hb2.size)
      have x0 := (k13.cell (p := ⟨w.heap.size, 0, none⟩) x6).trans x0
      have x6 := Nat.lt_of_lt_of_le x6 k13.size
      have B3 := bk.trans (k13.mono bk.size)
      rw [← hw3]
      clear hw3 hb2 k3 k13 bk cb
      have d12 := fun p : In w3 => c12 w.heap.size p.w (Nat.lt_of_lt_of_le x6 p.h.size) ((p.h.cell (p := ⟨w.heap.size, 0, none⟩) x6).trans x0)
      clear c12
      generalize w2.heap.size = g at *
      go_upto_region 7 with fail
      try simp only [List.append_eq, List.cons_append, List.nil_append]
      refine wp_region_flow [] (by kernel_rfl) (by kernel_rfl) ?_
      repeat (((with_reducible refine wpFlow_steps ?_); intro K hK; go_simp; first | (with_reducible refine hK _ ?_; clear hK K) | (apply Exists.intro; (with_reducible refine ⟨fun _ => ⟨?_, _, rfl⟩, hK _ ?_⟩); (· exact rfl); clear hK K) | (apply Exists.intro; (with_reducible refine ⟨fun _ => ⟨_, rfl⟩, hK _ ?_⟩); clear hK K) | (apply Exists.intro; (with_reducible refine ⟨fun _ => ?_, hK _ ?_⟩); (· (with_reducible (first | exact aw _ | exact ci1 _ | exact ci2 _ | exact ci3 _ | exact cid _ | exact ce _ | exact d12 _))); clear hK K)))
      (refine wpFlow_nil ?_; rintro w1 ⟨q0, hq0⟩; have hb := In.h q0; rw [← hq0] at hb; clear hq0 q0; (first | ((with_reducible obtain ⟨p, hw''⟩ := In.of2 p hb); subst hw'') | (obtain ⟨p, hw''⟩ := In.of hb; subst hw'')); go_simp; intros)
      go_wp2_with fail
      go_ret
      exact ⟨rfl, p.back B3⟩
theorem keySpans_walk (t u : List UInt8) (n : Int) (w : World) (ht : t.length ≤ maxLen) (hu : u.length ≤ maxLen) (hn : I64 n) :
    Calls Tryd.prog 4 #[.string (st t), .string (st u), .int .i64 n] w fun e w' => e = .returned (.bool true) ∧ Below w.heap.size w w' := by
  refine keySpans_in (if 50 < t.length then t.take 50 else t) (if 100 < u.length then u.take 100 else u) n w ?_ ?_ hn t u ht hu rfl rfl
  · split
    · rw [List.length_take]; omega
    · omega
  · split
    · rw [List.length_take]; omega
    · omega
end Go.Proofs.YteldgdlpfailgaaDoor
