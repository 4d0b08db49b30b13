
/-
  key.Begin; the laws' awake; KeyNumbers.
-/
import Derived.Test.YteldgdlpfailgaaDoorKeyA
set_option linter.unusedSimpArgs false
set_option linter.unusedVariables false
namespace Go.Proofs.YteldgdlpfailgaaDoor
open Go.RowKit

abbrev spanV (lo hi : List UInt8) : Value := .agg #[.string (st lo), .string (st hi)]
def BeginEnds (s : List UInt8) (w : World) (e : Ending) (w' : World) : Prop := e = .returned (spanV s (endL s s.length)) ∧ Below w.heap.size w w'
theorem endL_step (s : List UInt8) (i : Nat) : endL s (i + 1) = if s.getD i 0 < 255 then s.take i ++ [s.getD i 0 + 1] else endL s i := rfl
theorem byte_succ (c : UInt8) (h : c < 255) : byte ((c.toNat : Int) + 1) = c + 1 := by
  unfold byte
  rw [UInt8.lt_iff_toNat_lt] at h
  have h255 : (255 : UInt8).toNat = 255 := rfl
  apply UInt8.toNat_inj.1
  rw [UInt8.toNat_ofNat', UInt8.toNat_add]
  have h1 : (1 : UInt8).toNat = 1 := rfl
  omega
set_option maxRecDepth 8000 in
set_option maxHeartbeats 2000000 in
theorem begin_c (s : List UInt8) (w : World) (hs : s.length ≤ 1000) : Calls Tryd.prog 11 #[.string (st s)] w (BeginEnds s w) := by
  go_enter Tryd.func11, Tryd.ntmps11
  go_upto_region 2 with fail
  obtain ⟨w1, hw1⟩ : ∃ w1, w1 = w.alloc (.cells #[.string (st []), .string (st [])] 26) := ⟨_, rfl⟩
  have bk : Below w.heap.size w w1 := hw1 ▸ below_alloc w _
  have h1 : w1.heap[w.heap.size]? = some (.cells #[.string (st []), .string (st [])] 26) := by rw [hw1]; show (w.heap.push _)[w.heap.size]? = _; simp
  have q : ∀ j, w1.cell? ⟨w.heap.size, j, none⟩ = #[Value.string (st []), Value.string (st [])][j]? := fun j => by simp only [World.cell?, h1]; simp
  have x6 : w.heap.size < w1.heap.size := by rw [hw1]; simp
  have q0 := q 0
  have q1 := q 1
  have gf : ∀ j, w1.frozen? ⟨w.heap.size, j, none⟩ = false := fun j => by simp [World.frozen?, h1]
  rw [show w.alloc (.cells #[.string ⟨#[]⟩, .string ⟨#[]⟩] 26) = w1 from by rw [hw1] <;> rfl]
  clear hw1 q
  go_wp2_with fail
  go_loopw [3] (fun a3 wr => ∃ j : Nat, a3 = .int .i64 ((j : Int) - 1) ∧ j ≤ s.length ∧ Hid (endL s s.length = endL s j) ∧ wr = w1) (fun a _ => (intOf a + 1).toNat)
  case atStart => exact ⟨s.length, rfl, Nat.le_refl _, rfl, rfl⟩
  case round =>
    obtain ⟨j, rfl, hj, hE, rfl⟩ := hrel
    cases j with
    | zero =>
      go_wp2_with fail
      have hR := hE.out
      have hR := Lib.hid hR
      have y5 : w.heap.size ≤ w.heap.size := Nat.le_refl _
      refine bodyPost_ret (v := spanV s []) (by simp only [results, Tryd.results11]; go_simp) rfl ⟨by rw [hR.out] <;> rfl, ?_⟩
      repeat (with_reducible refine back_set ?_ _ y5 _)
      exact bk
    | succ i =>
      have hi : i < s.length := by omega
      have hi0 : (0 : Int) ≤ (i : Int) := by omega
      have hil : (i : Int) < s.length := by omega
      have e1 : ((i + 1 : Nat) : Int) - 1 = (i : Int) := by omega
      rw [e1]
      have hst := endL_step s i
      have hg : s.getD i 0 = s[i] := by simp [List.getD, hi]
      rw [hg] at hst
      clear hg
      obtain ⟨c, hc0⟩ : ∃ c, s[i] = c := ⟨_, rfl⟩
      have hb1 : ∀ h : i < s.length, s[i]'h = c := fun _ => hc0
      have hb : ∀ h : i < (st s).size, (st s)[i]'h = c := fun h => by show (s.toArray)[i]'_ = _; simp [hc0]
      rw [hc0] at hst
      clear hc0
      have wm : IntKind.i64.wrap ((i : Int) - 1) = (i : Int) - 1 := by rw [IntKind.wrap_i64]; omega
      by_cases hlt : c < 255
      · have hlt' : (c.toNat : Int) < 255 := by have := UInt8.lt_iff_toNat_lt.1 hlt; have h255 : (255 : UInt8).toNat = 255 := rfl; omega
        have wa : IntKind.u8.wrap ((c.toNat : Int) + 1) = (c.toNat : Int) + 1 := by simp [IntKind.wrap, IntKind.bits, IntKind.signed]; omega
        rw [if_pos hlt] at hst
        have hR := Lib.hid (hE.out.trans hst)
        have hbs := Lib.hid (byte_succ c hlt)
        have hle : (i : Int) ≤ s.length := by omega
        have hsm : ¬ 9223372036854775807 < (s.take i).length + 1 := by rw [List.length_take]; omega
        have hex : (⟨s.toArray⟩ : ByteArray).extract 0 i = ⟨(s.take i).toArray⟩ := by apply ByteArray.ext; simp [ByteArray.data_extract]
        have hD := Lib.hid (show endL s s.length = s.take i ++ [byte ((c.toNat : Int) + 1)] by rw [hbs.out]; exact hR.out)
        clear hst hE hR hbs
        generalize hT : s.take i = T at *
        have hT2 := Lib.hid hT
        clear hT
        go_upto_region 5 with fail
        refine wp_region_flow_last (l := [_, _, _, _, _, _, _, _, _, _, _, _]) [23] (by kernel_rfl) (by kernel_rfl) (by kernel_rfl) ?_
        repeat (((with_reducible refine wpFlow_steps ?_); intro K hK; go_simp; first | (with_reducible refine hK _ ?_; clear hK K) | (apply Exists.intro; (with_reducible refine ⟨fun _ => ⟨?_, _, rfl⟩, hK _ ?_⟩); (· exact rfl); clear hK K) | (apply Exists.intro; (with_reducible refine ⟨fun _ => ⟨_, rfl⟩, hK _ ?_⟩); clear hK K) | (apply Exists.intro; (with_reducible refine ⟨fun _ => ?_, hK _ ?_⟩); (· (with_reducible (first | exact fun b T h => conv1_at _ b T _ h))); clear hK K)))
        refine wpFlow_nil ?_
        rintro _ ⟨p2, rfl⟩
        intro b hb T2 hH
        clear hb hH
        have r0 := (p2.h.cell (p := ⟨w.heap.size, 0, none⟩) x6).trans q0
        have r1 := (p2.h.cell (p := ⟨w.heap.size, 1, none⟩) x6).trans q1
        have rf := fun j => (p2.h.frozen (p := ⟨w.heap.size, j, none⟩) x6).trans (gf j)
        have r6 := Nat.lt_of_lt_of_le x6 p2.h.size
        have B2 := p2.back bk
        clear q0 q1 gf x6 h1
        generalize p2.w = w2 at *
        clear p2
        refine ⟨by kernel_rfl, ?_⟩
        go_simp
        go_wp2_with fail
        have y5 : w.heap.size ≤ w.heap.size := Nat.le_refl _
        refine bodyPost_ret (v := spanV s (T ++ [byte ((c.toNat : Int) + 1)])) (by simp only [results, Tryd.results11]; go_simp) rfl ⟨by rw [hD.out] <;> rfl, ?_⟩
        repeat (with_reducible refine back_set ?_ _ y5 _)
        exact B2
      · have hlt' : ¬ (c.toNat : Int) < 255 := fun h => hlt (by rw [UInt8.lt_iff_toNat_lt]; have h255 : (255 : UInt8).toNat = 255 := rfl; omega)
        rw [if_neg hlt] at hst
        have hst := Lib.hid hst
        go_wp2_with fail
        exact ⟨⟨i, rfl, by omega, hE.out.trans hst.out, by trivial⟩, by simp [intOf]⟩
theorem in_span (s k : List UInt8) : inB s (endL s s.length) k = (decide (s.length ≤ k.length) && (k.take s.length == s)) := by
  rw [← prefix_take, ← span_law]
  rfl
theorem wake_less : lessB (keyI 1) (keyD 4609434218613702656) = true := by kernel_rfl
set_option maxRecDepth 8000 in
set_option maxHeartbeats 2000000 in
theorem awake_c (w : World) : Calls Tryd.prog 9 #[] w fun e w' => e = .returned (.bool true) ∧ Below w.heap.size w w' := by
  have c1 : ∀ w, Calls Tryd.prog 17 #[valV 2 false 1 0 [] none 0 0] w fun e w' => e = .returned (.string (st (keyI 1))) ∧ Below w.heap.size w w' := fun w => of_int 1 w ⟨by omega, by omega⟩
  have c2 : ∀ w, Calls Tryd.prog 17 #[valV 3 false 0 4609434218613702656 [] none 0 0] w fun e w' => e = .returned (.string (st (keyD 4609434218613702656))) ∧ Below w.heap.size w w' := fun w => of_float _ w ⟨by omega⟩
  have c3 : ∀ w, Calls Tryd.prog 11 #[.string (st [97])] w fun e w' => e = .returned (spanV [97] [98]) ∧ Below w.heap.size w w' := fun w => begin_c [97] w (by simp)
  have c4 : ∀ w, Calls Tryd.prog 13 #[spanV [97] [98], .string (st [97, 98])] w fun e w' => e = .returned (.bool true) ∧ Below w.heap.size w w' := fun w => in_c [97] [98] [97, 98] w
  have c5 : ∀ w, Calls Tryd.prog 13 #[spanV [97] [98], .string (st [98])] w fun e w' => e = .returned (.bool false) ∧ Below w.heap.size w w' := fun w => in_c [97] [98] [98] w
  have hl := keyI_len 1
  have hw := wake_less
  generalize keyI 1 = X at *
  generalize keyD 4609434218613702656 = Y at *
  go_enter Tryd.func9, Tryd.ntmps9
  go_wp2_with (first | ((with_reducible refine (c1 _).mono ?_); rintro e w1 ⟨rfl, hb1⟩; (first | ((with_reducible obtain ⟨p, hw''⟩ := In.of2 p hb1); subst hw'') | (obtain ⟨p, hw''⟩ := In.of hb1; subst hw''))) | ((with_reducible refine (c2 _).mono ?_); rintro e w2 ⟨rfl, hb2⟩; (first | ((with_reducible obtain ⟨p, hw''⟩ := In.of2 p hb2); subst hw'') | (obtain ⟨p, hw''⟩ := In.of hb2; subst hw''))) | ((with_reducible refine (c3 _).mono ?_); rintro e w3 ⟨rfl, hb3⟩; (first | ((with_reducible obtain ⟨p, hw''⟩ := In.of2 p hb3); subst hw'') | (obtain ⟨p, hw''⟩ := In.of hb3; subst hw''))) | ((with_reducible refine (c4 _).mono ?_); rintro e w4 ⟨rfl, hb4⟩; (first | ((with_reducible obtain ⟨p, hw''⟩ := In.of2 p hb4); subst hw'') | (obtain ⟨p, hw''⟩ := In.of hb4; subst hw''))) | ((with_reducible refine (c5 _).mono ?_); rintro e w5 ⟨rfl, hb5⟩; (first | ((with_reducible obtain ⟨p, hw''⟩ := In.of2 p hb5); subst hw'') | (obtain ⟨p, hw''⟩ := In.of hb5; subst hw''))))

  go_ret
  exact ⟨rfl, p.back (Below.refl _ _)⟩
set_option maxRecDepth 8000 in
set_option maxHeartbeats 2000000 in
theorem keyNumbers_walk (a b : Int) (f : Nat) (w : World) (ha : I64 a) (hb : I64 b) (hf : U64 f) :
    Calls Tryd.prog 7 #[.int .i64 a, .int .i64 b, .float .f64 f] w fun e w' => e = .returned (.bool true) ∧ Below w.heap.size w w' := by
  have c1 : ∀ w, Calls Tryd.prog 17 #[valV 2 false a 0 [] none 0 0] w fun e w' => e = .returned (.string (st (keyI a))) ∧ Below w.heap.size w w' := fun w => of_int a w ha
  have c2 : ∀ w, Calls Tryd.prog 17 #[valV 2 false b 0 [] none 0 0] w fun e w' => e = .returned (.string (st (keyI b))) ∧ Below w.heap.size w w' := fun w => of_int b w hb
  have c3 : ∀ w, Calls Tryd.prog 17 #[valV 3 false 0 f [] none 0 0] w fun e w' => e = .returned (.string (st (keyD f))) ∧ Below w.heap.size w w' := fun w => of_float f w hf
  have c4 : ∀ w, Calls Tryd.prog 20 #[.int .i64 a, .float .f64 f] w fun e w' => e = .returned (.int .i64 (mixF a f)) ∧ Below w.heap.size w w' := fun w => below_same (rmix_c a f w ha hf)
  have aw := fun w => awake_c w
  have h1 := keyI_less ha hb
  have h2 := keyI_eq ha hb
  have h3 := keyI_mix ha hf
  have h4 : (keyI a == keyD f) = false := by simpa using keyI_keyD a f
  have l1 := keyI_len a
  have l3 := keyD_len f
  generalize keyI a = X at *
  generalize keyI b = Y at *
  generalize keyD f = Z at *
  generalize mixF a f = M at *
  go_enter Tryd.func7, Tryd.ntmps7
  go_upto_region 3 with (first | ((with_reducible refine (c1 _).mono ?_); rintro e w1 ⟨rfl, hb1⟩; (first | ((with_reducible obtain ⟨p, hw''⟩ := In.of2 p hb1); subst hw'') | (obtain ⟨p, hw''⟩ := In.of hb1; subst hw''))) | ((with_reducible refine (c2 _).mono ?_); rintro e w2 ⟨rfl, hb2⟩; (first | ((with_reducible obtain ⟨p, hw''⟩ := In.of2 p hb2); subst hw'') | (obtain ⟨p, hw''⟩ := In.of hb2; subst hw''))) | ((with_reducible refine (c3 _).mono ?_); rintro e w3 ⟨rfl, hb3⟩; (first | ((with_reducible obtain ⟨p, hw''⟩ := In.of2 p hb3); subst hw'') | (obtain ⟨p, hw''⟩ := In.of hb3; subst hw''))) | ((with_reducible refine (c4 _).mono ?_); rintro e w4 ⟨rfl, hb4⟩; (first | ((with_reducible obtain ⟨p, hw''⟩ := In.of2 p hb4); subst hw'') | (obtain ⟨p, hw''⟩ := In.of hb4; subst hw''))))
  try simp only [List.append_eq, List.cons_append, List.nil_append]
  go_wp2_with ((with_reducible refine (aw _).mono ?_); rintro e w5 ⟨rfl, hb5⟩; (first | ((with_reducible obtain ⟨p, hw''⟩ := In.of2 p hb5); subst hw'') | (obtain ⟨p, hw''⟩ := In.of hb5; subst hw'')))
  go_ret
  exact ⟨rfl, p.back (Below.refl _ _)⟩
end Go.Proofs.YteldgdlpfailgaaDoor
