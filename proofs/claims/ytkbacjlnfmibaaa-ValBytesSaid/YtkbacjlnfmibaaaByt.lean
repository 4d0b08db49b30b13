
/-
  ValBytes' walk.
-/
import Derived.Test.YtkbacjlnfmibaaaAwk
import Derived.Test.YtkbacjlnfmibaaaBytesR
set_option linter.unusedSimpArgs false
set_option linter.unusedVariables false
namespace Go.Proofs.Ytkbacjlnfmibaaa
open Go.RowKit Go.Deep

theorem byte_of (k : Int) (h0 : 0 ≤ k) : ((byte k).toNat : Int) = k % 256 := by
  unfold byte
  rw [UInt8.toNat_ofNat']
  omega
theorem eight_wideN (n : Int) (h0 : 0 ≤ n) (h1 : n ≤ 18446744073709551615) : wideN (eightL n) 8 = n := by
  unfold wideN wide eightL
  simp only [List.take_succ_cons, List.take_zero, List.foldl_cons, List.foldl_nil]
  have e := fun (k : Int) (hk : 0 ≤ k) => byte_of k hk
  have e0 := e (n / 72057594037927936 % 256) (by omega)
  have e1 := e (n / 281474976710656 % 256) (by omega)
  have e2 := e (n / 1099511627776 % 256) (by omega)
  have e3 := e (n / 4294967296 % 256) (by omega)
  have e4 := e (n / 16777216 % 256) (by omega)
  have e5 := e (n / 65536 % 256) (by omega)
  have e6 := e (n / 256 % 256) (by omega)
  have e7 := e (n % 256) (by omega)
  clear e
  have d1 : n / 256 = n / 65536 * 256 + n / 256 % 256 := by omega
  have d2 : n / 65536 = n / 16777216 * 256 + n / 65536 % 256 := by omega
  have d3 : n / 16777216 = n / 4294967296 * 256 + n / 16777216 % 256 := by omega
  have d4 : n / 4294967296 = n / 1099511627776 * 256 + n / 4294967296 % 256 := by omega
  have d5 : n / 1099511627776 = n / 281474976710656 * 256 + n / 1099511627776 % 256 := by omega
  have d6 : n / 281474976710656 = n / 72057594037927936 * 256 + n / 281474976710656 % 256 := by omega
  have d7 : n / 72057594037927936 % 256 = n / 72057594037927936 := by omega
  have d0 : n = n / 256 * 256 + n % 256 := by omega
  rw [Int.emod_emod_of_dvd _ (Int.dvd_refl 256)] at e0 e1 e2 e3 e4 e5 e6 e7
  replace e0 := e0.trans d7
  generalize (byte (n / 72057594037927936 % 256)).toNat = b0 at *
  generalize (byte (n / 281474976710656 % 256)).toNat = b1 at *
  generalize (byte (n / 1099511627776 % 256)).toNat = b2 at *
  generalize (byte (n / 4294967296 % 256)).toNat = b3 at *
  generalize (byte (n / 16777216 % 256)).toNat = b4 at *
  generalize (byte (n / 65536 % 256)).toNat = b5 at *
  generalize (byte (n / 256 % 256)).toNat = b6 at *
  generalize (byte (n % 256)).toNat = b7 at *
  generalize n / 72057594037927936 = y7 at *
  generalize n / 281474976710656 % 256 = m6 at *
  generalize n / 281474976710656 = y6 at *
  generalize n / 1099511627776 % 256 = m5 at *
  generalize n / 1099511627776 = y5 at *
  generalize n / 4294967296 % 256 = m4 at *
  generalize n / 4294967296 = y4 at *
  generalize n / 16777216 % 256 = m3 at *
  generalize n / 16777216 = y3 at *
  generalize n / 65536 % 256 = m2 at *
  generalize n / 65536 = y2 at *
  generalize n / 256 % 256 = m1 at *
  generalize n / 256 = y1 at *
  generalize n % 256 = m0 at *
  clear d7
  omega
theorem plus_byte (l : List UInt8) (k : Nat) (h : k < l.length) (hk : k < 8) : IntKind.u64.wrap (IntKind.u64.wrap (wideN l k * 256) + IntKind.u64.wrap ((st l)[k]'(st_lt h)).toNat) = wideN l (k + 1) := by
  unfold wideN
  rw [st_get l k h, take_snoc l k h, wide_snoc]
  have h1 := wide_lt (l.take k)
  rw [List.length_take, Nat.min_eq_left (by omega)] at h1
  have h2 : 256 ^ k ≤ 256 ^ 7 := Nat.pow_le_pow_right (by decide) (by omega)
  have h3 := l[k].toNat_lt
  rw [wrap_u64', wrap_u64', wrap_u64']
  omega
set_option maxHeartbeats 400000 in
theorem rwide_c (l : List UInt8) (w : World) (h : l.length ≤ maxLen) :
    Calls Try.prog 23 #[.string (st l)] w fun e w' => e = .returned (.int .u64 (wideN l 8)) ∧ w = w' := by
  unfold maxLen at h
  go_enter Try.func23, Try.ntmps23
  go_wp2
  go_loop [3, 4] (fun v i => ∃ k : Nat, k ≤ 8 ∧ k ≤ l.length ∧ i = .int .i64 k ∧ v = .int .u64 (wideN l k)) (fun _ i => 8 - (intOf i).toNat)
  case atStart => exact ⟨0, by omega, by omega, rfl, rfl⟩
  case round =>
    obtain ⟨k, hk, hkl, rfl, rfl⟩ := hrel
    by_cases hl : k < l.length
    · have hl' : (k : Int) < l.length := by omega
      by_cases hlt : k < 8
      · have hlt' : (k : Int) < 8 := by omega
        have hs := plus_byte l k (by omega) (by omega)
        go_wp2
        go_round
        case rel => exact ⟨k + 1, by omega, by omega, by go_num, rfl⟩
        case measure => simp [intOf]; omega
      · have hlt' : ¬ (k : Int) < 8 := by omega
        have hkk : Hid (k = 8) := by unfold RowKit.Hid; omega
        go_wp2
        go_ret
        exact ⟨ret_int (by rw [hkk.out]), rfl⟩
    · have hl' : ¬ (k : Int) < l.length := by omega
      have hkk : Hid (k = l.length) := by unfold RowKit.Hid; omega
      go_wp2
      go_ret
      exact ⟨ret_int (by rw [hkk.out, wideN_short (by omega)]), rfl⟩
set_option maxRecDepth 8000 in
set_option maxHeartbeats 2000000 in
theorem valBytes_in (n : Nat) (s : List UInt8) (w : World) (hn : U64 n) (hs : s.length ≤ 20) :
    ∀ t : List UInt8, (t.length ≤ maxLen) → (if 20 < t.length then t.take 20 else t) = s →
    Calls Try.prog 5 #[.int .u64 n, .string (st t)] w fun e w' => e = .returned (.bool true) ∧ Below w.heap.size w w' := by
  intro t ht hts
  unfold maxLen at ht
  have hlt := hn.lt
  have c1 := fun w => eight_c (n : Int) w (by omega)
  have c2 := fun w => reight_c (n : Int) w (by omega) (by omega)
  have c3 : ∀ w, Calls Try.prog 22 #[.string (st (eightL n))] w fun e w' => e = .returned (.int .u64 n) ∧ w = w' := fun w => by
    have := wide_c (eightL n) w (by unfold maxLen; simp [eightL])
    rwa [eight_wideN n (by omega) (by omega)] at this
  have c4 := fun w => wide_c s w (by unfold maxLen; omega)
  have c5 := fun w => rwide_c s w (by unfold maxLen; omega)
  have c6 := fun (m : Int) w => two_c m w
  have c7 := fun (m : Int) (h : 0 ≤ m ∧ m ≤ 9223372036854775807) w => rtwo_c m w h.1 h.2
  have aw := fun w => awake_c w
  have hnn : 0 ≤ (n : Int) / 2 ∧ (n : Int) / 2 ≤ 9223372036854775807 := by omega
  unfold StrEnds at c1 c2 c6 c7
  generalize wideN s 8 = W at *
  generalize eightL n = E at *
  clear hn
  by_cases h20 : 20 < t.length
  · have h20' : (20 : Int) < t.length := by omega
    rw [if_pos h20] at hts
    have h20l : (20 : Int) ≤ t.length := by omega
    go_enter Try.func5, Try.ntmps5
    go_upto_region 3 with fail
    try simp only [List.append_eq, List.cons_append, List.nil_append]
    go_wp2_with (first | ((with_reducible refine (aw _).mono ?_); rintro e w3 ⟨rfl, hb3⟩; (first | ((with_reducible obtain ⟨p, hw''⟩ := In.of2 p hb3); subst hw'') | (obtain ⟨p, hw''⟩ := In.of hb3; subst hw''))) | ((with_reducible refine (c1 _).mono ?_); rintro e w3 ⟨rfl, hb3⟩; (first | ((with_reducible obtain ⟨p, hw''⟩ := In.of2 p hb3); subst hw'') | (obtain ⟨p, hw''⟩ := In.of hb3; subst hw''))) | ((with_reducible refine (c2 _).mono ?_); rintro e w3 ⟨rfl, hb3⟩; (first | ((with_reducible obtain ⟨p, hw''⟩ := In.of2 p hb3); subst hw'') | (obtain ⟨p, hw''⟩ := In.of hb3; subst hw''))) | ((with_reducible refine (c3 _).mono ?_); rintro e w3 ⟨rfl, rfl⟩) | ((with_reducible refine (c4 _).mono ?_); rintro e w3 ⟨rfl, rfl⟩) | ((with_reducible refine (c5 _).mono ?_); rintro e w3 ⟨rfl, rfl⟩) | ((with_reducible refine (c6 _ _).mono ?_); rintro e w3 ⟨rfl, hb3⟩; (first | ((with_reducible obtain ⟨p, hw''⟩ := In.of2 p hb3); subst hw'') | (obtain ⟨p, hw''⟩ := In.of hb3; subst hw''))) | ((with_reducible refine (c7 _ hnn _).mono ?_); rintro e w3 ⟨rfl, hb3⟩; (first | ((with_reducible obtain ⟨p, hw''⟩ := In.of2 p hb3); subst hw'') | (obtain ⟨p, hw''⟩ := In.of hb3; subst hw''))))
    go_ret
    exact ⟨rfl, p.back (Below.refl _ _)⟩
  · have h20' : ¬ (20 : Int) < t.length := by omega
    rw [if_neg h20] at hts
    subst hts
    go_enter Try.func5, Try.ntmps5
    go_upto_region 3 with fail
    try simp only [List.append_eq, List.cons_append, List.nil_append]
    go_wp2_with (first | ((with_reducible refine (aw _).mono ?_); rintro e w3 ⟨rfl, hb3⟩; (first | ((with_reducible obtain ⟨p, hw''⟩ := In.of2 p hb3); subst hw'') | (obtain ⟨p, hw''⟩ := In.of hb3; subst hw''))) | ((with_reducible refine (c1 _).mono ?_); rintro e w3 ⟨rfl, hb3⟩; (first | ((with_reducible obtain ⟨p, hw''⟩ := In.of2 p hb3); subst hw'') | (obtain ⟨p, hw''⟩ := In.of hb3; subst hw''))) | ((with_reducible refine (c2 _).mono ?_); rintro e w3 ⟨rfl, hb3⟩; (first | ((with_reducible obtain ⟨p, hw''⟩ := In.of2 p hb3); subst hw'') | (obtain ⟨p, hw''⟩ := In.of hb3; subst hw''))) | ((with_reducible refine (c3 _).mono ?_); rintro e w3 ⟨rfl, rfl⟩) | ((with_reducible refine (c4 _).mono ?_); rintro e w3 ⟨rfl, rfl⟩) | ((with_reducible refine (c5 _).mono ?_); rintro e w3 ⟨rfl, rfl⟩) | ((with_reducible refine (c6 _ _).mono ?_); rintro e w3 ⟨rfl, hb3⟩; (first | ((with_reducible obtain ⟨p, hw''⟩ := In.of2 p hb3); subst hw'') | (obtain ⟨p, hw''⟩ := In.of hb3; subst hw''))) | ((with_reducible refine (c7 _ hnn _).mono ?_); rintro e w3 ⟨rfl, hb3⟩; (first | ((with_reducible obtain ⟨p, hw''⟩ := In.of2 p hb3); subst hw'') | (obtain ⟨p, hw''⟩ := In.of hb3; subst hw''))))
    go_ret
    exact ⟨rfl, p.back (Below.refl _ _)⟩
theorem valBytes_walk (n : Nat) (t : List UInt8) (w : World) (hn : U64 n) (ht : t.length ≤ maxLen) :
    Calls Try.prog 5 #[.int .u64 n, .string (st t)] w fun e w' => e = .returned (.bool true) ∧ Below w.heap.size w w' := by
  refine valBytes_in n (if 20 < t.length then t.take 20 else t) w hn ?_ t ht rfl
  split
  · rw [List.length_take]; omega
  · omega
end Go.Proofs.Ytkbacjlnfmibaaa
