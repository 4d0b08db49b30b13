/-
  Requests' bytes.
-/
import Derived.Test.YtijkliffgihglaaMsgA
set_option linter.unusedSimpArgs false
set_option linter.unusedVariables false
namespace Go.Proofs.Ytijkliffgihglaa
open Go.RowKit

def askL (id kind sess rules fuel room batch : Int) (body : List UInt8) : List UInt8 :=
  eightL id ++ [byte kind] ++ eightL sess ++ [byte rules] ++ eightL fuel ++ eightL room ++ twoL batch ++ body

theorem conv_at (w : World) (b T : Nat) (xs : List Int) (h : w.heap[b]? = some (.cells (xs.map (Value.int .u8)).toArray T)) :
    (convert 46 9 (.slice (some ⟨b, 0, none⟩) xs.length xs.length)).run Try.prog w = .ok (.string (st (xs.map byte))) w := by
  refine run_convert_bytes_arg _ 46 5 Try.underlying46 Try.underlying5 b 0 xs.length xs.length xs rfl ?_ 9 Try.underlying9
  intro i hi
  simp only [World.cell?, h]
  simp [hi]
theorem conv1_at (w : World) (b T : Nat) (x : Int) (h : w.heap[b]? = some (.cells #[.int .u8 x] T)) : (convert 46 9 (.slice (some ⟨b, 0, none⟩) 1 1)).run Try.prog w = .ok (.string (st [byte x])) w :=
  conv_at w b T [x] h

@[go_sem] theorem eightL_len (n : Int) : (eightL n).length = 8 := rfl
@[go_sem] theorem twoL_len (n : Int) : (twoL n).length = 2 := rfl
theorem wrap_u8' (n : Int) : IntKind.u8.wrap n = n % 256 := by simp [IntKind.wrap, IntKind.bits, IntKind.signed]
theorem below_grown_calls {P : Program} {f : FuncId} {args : Array Value} {w : World} {l : List UInt8} (h : Calls P f args w (StrEnds l w)) : Calls P f args w fun e w'' => e = .returned (.string (st l)) ∧ Below w.heap.size w w'' := h.mono fun _ _ h => h

set_option maxHeartbeats 2000000 in
theorem rput_c (id kind sess rules fuel room batch : Int) (body : List UInt8) (w : World) (hl : body.length ≤ 20000) (hid : 0 ≤ id ∧ id ≤ 18446744073709551615) (hs : 0 ≤ sess ∧ sess ≤ 9223372036854775807)
    (hf : 0 ≤ fuel ∧ fuel ≤ 9223372036854775807) (hr : 0 ≤ room ∧ room ≤ 9223372036854775807) (hb : 0 ≤ batch ∧ batch ≤ 9223372036854775807) (hk : 0 ≤ kind ∧ kind < 256) (hu : 0 ≤ rules ∧ rules < 256) :
    Calls Try.prog 12 #[askV id kind sess rules fuel room batch body] w (StrEnds (askL id kind sess rules fuel room batch body) w) := by
  have hl' : ¬ 9223372036854775807 < 36 + body.length := by omega
  have w1 : IntKind.u64.wrap sess = sess := by rw [wrap_u64']; omega
  have w2 : IntKind.u64.wrap fuel = fuel := by rw [wrap_u64']; omega
  have w3 : IntKind.u64.wrap room = room := by rw [wrap_u64']; omega
  have w4 : IntKind.u8.wrap kind = kind := by rw [wrap_u8']; omega
  have w5 : IntKind.u8.wrap rules = rules := by rw [wrap_u8']; omega
  have c1 := fun w => below_grown_calls (reight_c id w hid.1 hid.2)
  have c2 := fun w => below_grown_calls (reight_c sess w hs.1 (by omega))
  have c3 := fun w => below_grown_calls (reight_c fuel w hf.1 (by omega))
  have c4 := fun w => below_grown_calls (reight_c room w hr.1 (by omega))
  have c5 := fun w => below_grown_calls (rtwo_c batch w hb.1 hb.2)
  go_enter Try.func12, Try.ntmps12
  go_wp2
  refine wp_region_flow [9, 20] (by kernel_rfl) (by kernel_rfl) ?_
  repeat ((refine wpFlow_steps (fun K hK => ?_); go_simp; first | (with_reducible refine hK _ ?_; clear hK K) | (apply Exists.intro; (with_reducible refine ⟨fun _ => ⟨?_, _, rfl⟩, hK _ ?_⟩); (· exact rfl); clear hK K) | (apply Exists.intro; (with_reducible refine ⟨fun _ => ⟨_, rfl⟩, hK _ ?_⟩); clear hK K) | (apply Exists.intro; (with_reducible refine ⟨fun _ => ?_, hK _ ?_⟩); (· (with_reducible (first | exact fun b T h => conv1_at _ b T _ h | exact c1 _ | exact c2 _ | exact c3 _ | exact c4 _ | exact c5 _))); clear hK K)))
  (refine wpFlow_nil ?_; rintro w1 ⟨q0, hq0⟩; have hb := In.h q0; rw [← hq0] at hb; clear hq0 q0; (first | ((with_reducible obtain ⟨p, hw''⟩ := In.of2 p hb); subst hw'') | (obtain ⟨p, hw''⟩ := In.of hb; subst hw'')); go_simp; intros)
  go_wp2
  go_ret
  exact ⟨ret_str (by simp [askL]), p.back1⟩
theorem ret_si {a b : List UInt8} {n : Int} (h : a = b) : Ending.returned (.tuple #[.string (st a), .int .i64 n]) = .returned (.tuple #[.string (st b), .int .i64 n]) := by rw [h]
set_option maxHeartbeats 2000000 in
theorem put_c (id kind sess rules fuel room batch : Int) (body : List UInt8) (w : World) (hl : body.length ≤ maxLen) (hid : 0 ≤ id ∧ id ≤ 18446744073709551615) (hs : sess ≤ 9223372036854775807)
    (hf : fuel ≤ 9223372036854775807) (hr : room ≤ 9223372036854775807) :
    Calls Try.prog 8 #[askV id kind sess rules fuel room batch body] w (fun e w' => e = .returned (.tuple #[.string (st (if askE kind sess rules fuel room batch body.length = 0 then askL id kind sess rules fuel room batch body else [])), .int .i64 (askE kind sess rules fuel room batch body.length)]) ∧ Below w.heap.size w w') := by
  have c0 := check_c id kind sess rules fuel room batch body
  by_cases h0 : askE kind sess rules fuel room batch body.length = 0
  · have H : (1 ≤ kind ∧ kind ≤ 7 ∧ 0 ≤ rules ∧ rules ≤ 255 ∧ 0 ≤ sess ∧ 0 ≤ fuel ∧ 0 ≤ room ∧ 1 ≤ batch ∧ batch ≤ 200 ∧ body.length ≤ 20000) := by
      unfold askE at h0; split at h0
      · omega
      · split at h0 <;> omega
    obtain ⟨k1, k2, r1, r2, s1, f1, m1, b1, b2, l1⟩ := H
    have hl' : ¬ 9223372036854775807 < 36 + body.length := by omega
    have w1 : IntKind.u64.wrap sess = sess := by rw [wrap_u64']; omega
    have w2 : IntKind.u64.wrap fuel = fuel := by rw [wrap_u64']; omega
    have w3 : IntKind.u64.wrap room = room := by rw [wrap_u64']; omega
    have w4 : IntKind.u8.wrap kind = kind := by rw [wrap_u8']; omega
    have w5 : IntKind.u8.wrap rules = rules := by rw [wrap_u8']; omega
    have c1 := fun w => below_grown_calls (eight_c id w hid.1)
    have c2 := fun w => below_grown_calls (eight_c sess w s1)
    have c3 := fun w => below_grown_calls (eight_c fuel w f1)
    have c4 := fun w => below_grown_calls (eight_c room w m1)
    have c5 := fun w => below_grown_calls (two_c batch w)
    go_enter Try.func8, Try.ntmps8
    go_wp2_with ((with_reducible refine (c0 _ hl).mono ?_); rintro e w1 ⟨rfl, hb⟩; (first | ((with_reducible obtain ⟨p, hw''⟩ := In.of2 p hb); subst hw'') | (obtain ⟨p, hw''⟩ := In.of hb; subst hw'')))
    refine wp_region_flow [17, 28] (by kernel_rfl) (by kernel_rfl) ?_
    repeat ((refine wpFlow_steps (fun K hK => ?_); go_simp; first | (with_reducible refine hK _ ?_; clear hK K) | (apply Exists.intro; (with_reducible refine ⟨fun _ => ⟨?_, _, rfl⟩, hK _ ?_⟩); (· exact rfl); clear hK K) | (apply Exists.intro; (with_reducible refine ⟨fun _ => ⟨_, rfl⟩, hK _ ?_⟩); clear hK K) | (apply Exists.intro; (with_reducible refine ⟨fun _ => ?_, hK _ ?_⟩); (· (with_reducible (first | exact fun b T h => conv1_at _ b T _ h | exact c1 _ | exact c2 _ | exact c3 _ | exact c4 _ | exact c5 _))); clear hK K)))
    (refine wpFlow_nil ?_; rintro w1 ⟨q0, hq0⟩; have hb := In.h q0; rw [← hq0] at hb; clear hq0 q0; (first | ((with_reducible obtain ⟨p, hw''⟩ := In.of2 p hb); subst hw'') | (obtain ⟨p, hw''⟩ := In.of hb; subst hw'')); go_simp; intros)
    go_wp2
    refine wp_region_flow [] (by kernel_rfl) (by kernel_rfl) ?_
    repeat ((refine wpFlow_steps (fun K hK => ?_); go_simp; first | (with_reducible refine hK _ ?_; clear hK K) | (apply Exists.intro; (with_reducible refine ⟨fun _ => ⟨?_, _, rfl⟩, hK _ ?_⟩); (· exact rfl); clear hK K) | (apply Exists.intro; (with_reducible refine ⟨fun _ => ⟨_, rfl⟩, hK _ ?_⟩); clear hK K) | (apply Exists.intro; (with_reducible refine ⟨fun _ => ?_, hK _ ?_⟩); (· (with_reducible (first | exact c3 _ | exact c4 _ | exact c5 _))); clear hK K)))
    (refine wpFlow_nil ?_; rintro w1 ⟨q0, hq0⟩; have hb := In.h q0; rw [← hq0] at hb; clear hq0 q0; (first | ((with_reducible obtain ⟨p, hw''⟩ := In.of2 p hb); subst hw'') | (obtain ⟨p, hw''⟩ := In.of hb; subst hw'')); go_simp; intros)
    go_wp2
    go_ret2
    exact ⟨ret_si (by simp [askL]), p.back1⟩
  · go_enter Try.func8, Try.ntmps8
    go_wp2_with ((with_reducible refine (c0 _ hl).mono ?_); rintro e w1 ⟨rfl, hb⟩; (first | ((with_reducible obtain ⟨p, hw''⟩ := In.of2 p hb); subst hw'') | (obtain ⟨p, hw''⟩ := In.of hb; subst hw'')))
    go_ret2
    exact ⟨rfl, p.back1⟩
end Go.Proofs.Ytijkliffgihglaa
