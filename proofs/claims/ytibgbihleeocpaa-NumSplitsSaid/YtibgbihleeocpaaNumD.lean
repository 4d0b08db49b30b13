/-
  The walks of the laws NumAdds, NumBack, NumOrder, NumKeys: each returns true, the world as it was.
-/
import Derived.Test.YtibgbihleeocpaaNumC
set_option linter.unusedSimpArgs false
set_option linter.unusedVariables false
namespace Go.Proofs.Ytibgbihleeocpaa
open Go.RowKit

theorem clip_yes {x : Int} (h : fits x = true) : (clip x == wrap64 x) = true := by
  unfold clip; rw [if_pos h, wrap_fits h]; simp
theorem clip_no {x : Int} (h : fits x = false) : (clip x == 0) = true := by
  unfold clip; rw [h]; simp
theorem clip_i64 (x : Int) : I64 (clip x) := by
  unfold clip
  split
  · rename_i h; unfold fits at h; simp at h; exact ⟨h.1, h.2⟩
  · exact ⟨by omega, by omega⟩

set_option maxHeartbeats 1000000 in
theorem numAdds_walk (a b : Int) (w : World) (ha : I64 a) (hb : I64 b) :
    Calls Try.prog 4 #[.int .i64 a, .int .i64 b] w fun e w' => e = .returned (.bool true) ∧ w = w' := by
  cases h1 : fits (a + b) <;> cases h2 : fits (a - b)
  · have c1 := clip_no h1
    have c2 := clip_no h2
    go_enter Try.func4, Try.ntmps4
    go_wp2_with (first | ((with_reducible refine (add_c _ _ _ (by assumption) (by assumption)).mono ?_); rintro e w1 ⟨rfl, rfl⟩) | ((with_reducible refine (sub_c _ _ _ (by assumption) (by assumption)).mono ?_); rintro e w1 ⟨rfl, rfl⟩) | ((with_reducible refine (awake_c _).mono ?_); rintro e w1 ⟨rfl, rfl⟩) | ((with_reducible refine (fits_add_c _ _ _ (by assumption) (by assumption)).mono ?_); rintro e w1 ⟨rfl, rfl⟩) | ((with_reducible refine (fits_sub_c _ _ _ (by assumption) (by assumption)).mono ?_); rintro e w1 ⟨rfl, rfl⟩))
    go_ret
    exact ⟨rfl, rfl⟩
  · have c1 := clip_no h1
    have c2 := clip_yes h2
    go_enter Try.func4, Try.ntmps4
    go_wp2_with (first | ((with_reducible refine (add_c _ _ _ (by assumption) (by assumption)).mono ?_); rintro e w1 ⟨rfl, rfl⟩) | ((with_reducible refine (sub_c _ _ _ (by assumption) (by assumption)).mono ?_); rintro e w1 ⟨rfl, rfl⟩) | ((with_reducible refine (awake_c _).mono ?_); rintro e w1 ⟨rfl, rfl⟩) | ((with_reducible refine (fits_add_c _ _ _ (by assumption) (by assumption)).mono ?_); rintro e w1 ⟨rfl, rfl⟩) | ((with_reducible refine (fits_sub_c _ _ _ (by assumption) (by assumption)).mono ?_); rintro e w1 ⟨rfl, rfl⟩))
    go_ret
    exact ⟨rfl, rfl⟩
  · have c1 := clip_yes h1
    have c2 := clip_no h2
    go_enter Try.func4, Try.ntmps4
    go_wp2_with (first | ((with_reducible refine (add_c _ _ _ (by assumption) (by assumption)).mono ?_); rintro e w1 ⟨rfl, rfl⟩) | ((with_reducible refine (sub_c _ _ _ (by assumption) (by assumption)).mono ?_); rintro e w1 ⟨rfl, rfl⟩) | ((with_reducible refine (awake_c _).mono ?_); rintro e w1 ⟨rfl, rfl⟩) | ((with_reducible refine (fits_add_c _ _ _ (by assumption) (by assumption)).mono ?_); rintro e w1 ⟨rfl, rfl⟩) | ((with_reducible refine (fits_sub_c _ _ _ (by assumption) (by assumption)).mono ?_); rintro e w1 ⟨rfl, rfl⟩))
    go_ret
    exact ⟨rfl, rfl⟩
  · have c1 := clip_yes h1
    have c2 := clip_yes h2
    go_enter Try.func4, Try.ntmps4
    go_wp2_with (first | ((with_reducible refine (add_c _ _ _ (by assumption) (by assumption)).mono ?_); rintro e w1 ⟨rfl, rfl⟩) | ((with_reducible refine (sub_c _ _ _ (by assumption) (by assumption)).mono ?_); rintro e w1 ⟨rfl, rfl⟩) | ((with_reducible refine (awake_c _).mono ?_); rintro e w1 ⟨rfl, rfl⟩) | ((with_reducible refine (fits_add_c _ _ _ (by assumption) (by assumption)).mono ?_); rintro e w1 ⟨rfl, rfl⟩) | ((with_reducible refine (fits_sub_c _ _ _ (by assumption) (by assumption)).mono ?_); rintro e w1 ⟨rfl, rfl⟩))
    go_ret
    exact ⟨rfl, rfl⟩

theorem sub_back {a b : Int} (ha : I64 a) (h : fits (a + b) = true) : fits (clip (a + b) - b) = true ∧ clip (clip (a + b) - b) = a := by
  have e : clip (a + b) - b = a := by unfold clip; rw [if_pos h]; omega
  rw [e]
  have : fits a = true := by unfold fits; have := ha.lo; have := ha.hi; simp; omega
  exact ⟨this, by unfold clip; rw [if_pos this]⟩
set_option maxHeartbeats 1000000 in
theorem numBack_walk (a b : Int) (w : World) (ha : I64 a) (hb : I64 b) :
    Calls Try.prog 5 #[.int .i64 a, .int .i64 b] w fun e w' => e = .returned (.bool true) ∧ w = w' := by
  have hc := clip_i64 (a + b)
  cases h1 : fits (a + b)
  · go_enter Try.func5, Try.ntmps5
    go_wp2_with (first | ((with_reducible refine (add_c _ _ _ (by assumption) (by assumption)).mono ?_); rintro e w1 ⟨rfl, rfl⟩) | ((with_reducible refine (sub_c _ _ _ (by assumption) (by assumption)).mono ?_); rintro e w1 ⟨rfl, rfl⟩) | ((with_reducible refine (awake_c _).mono ?_); rintro e w1 ⟨rfl, rfl⟩))
    go_ret
    exact ⟨rfl, rfl⟩
  · obtain ⟨c1, c2⟩ := sub_back ha h1
    go_enter Try.func5, Try.ntmps5
    go_wp2_with (first | ((with_reducible refine (add_c _ _ _ (by assumption) (by assumption)).mono ?_); rintro e w1 ⟨rfl, rfl⟩) | ((with_reducible refine (sub_c _ _ _ (by assumption) (by assumption)).mono ?_); rintro e w1 ⟨rfl, rfl⟩) | ((with_reducible refine (awake_c _).mono ?_); rintro e w1 ⟨rfl, rfl⟩))
    go_ret
    exact ⟨rfl, rfl⟩

theorem cmp_turn (a b : Nat) : (cmpF b a == wrap64 (-cmpF a b)) = true := by
  unfold cmpF
  by_cases h : key a < key b
  · rw [if_pos h, if_neg (by omega), if_pos h]; unfold wrap64; decide
  · by_cases h2 : key b < key a
    · rw [if_pos h2, if_neg h, if_pos h2]; unfold wrap64; decide
    · rw [if_neg h2, if_neg h, if_neg h, if_neg h2]; unfold wrap64; decide
theorem cmp_kl (a b : Nat) : (kl a b == decide (cmpF a b < 0)) = true := by
  unfold kl cmpF
  by_cases h : key a < key b
  · rw [if_pos h]; simp [h]
  · by_cases h2 : key b < key a
    · rw [if_neg h, if_pos h2]; simp [h]
    · rw [if_neg h, if_neg h2]; simp [h]
theorem cmp_ke (a b : Nat) : ((key a == key b) == (cmpF a b == 0)) = true := by
  unfold cmpF
  by_cases h : key a < key b
  · rw [if_pos h]; simp; omega
  · by_cases h2 : key b < key a
    · rw [if_neg h, if_pos h2]; simp; omega
    · rw [if_neg h, if_neg h2]; simp; omega
set_option maxHeartbeats 1000000 in
theorem numOrder_walk (a b : Nat) (w : World) (ha : U64 a) (hb : U64 b) :
    Calls Try.prog 3 #[.float .f64 a, .float .f64 b] w fun e w' => e = .returned (.bool true) ∧ w = w' := by
  have h1 := cmp_turn a b
  have h2 := cmp_kl a b
  have h3 := cmp_ke a b
  go_enter Try.func3, Try.ntmps3
  go_wp2_with (first | ((with_reducible refine (rcmp_c _ _ _ (by assumption) (by assumption)).mono ?_); rintro e w1 ⟨rfl, rfl⟩) | ((with_reducible refine (key_c _ _ (by assumption)).mono ?_); rintro e w1 ⟨rfl, rfl⟩) | ((with_reducible refine (awake_c _).mono ?_); rintro e w1 ⟨rfl, rfl⟩) | ((with_reducible refine (cmp_c _ _ _ (by assumption) (by assumption)).mono ?_); rintro e w1 ⟨rfl, rfl⟩))
  go_ret
  exact ⟨rfl, rfl⟩

theorem isNaN_canon (x : Nat) : Fl.isNaN (canon x) = Fl.isNaN x := by
  unfold canon
  cases h : Fl.isNaN x
  · simp [h]
  · simp; decide
theorem canon_canon (x : Nat) : canon (canon x) = canon x := by
  show (if Fl.isNaN (canon x) then 9221120237041090561 else canon x) = canon x
  rw [isNaN_canon]
  cases h : Fl.isNaN x
  · simp
  · unfold canon; rw [h]; simp
theorem key_canon (x : Nat) : key (canon x) = key x := by
  unfold key; rw [canon_canon]
theorem ofKey_key {x : Nat} (h : U64 x) : ofKey (key x) = canon x := by
  have := canon_lt h.lt
  unfold ofKey key
  split <;> split <;> omega
theorem key_ofKey {x : Nat} (h : U64 x) : (key (ofKey (key x)) == key x) = true := by
  rw [ofKey_key h, key_canon]; simp
theorem u64_ofKey {k : Nat} (hk : U64 k) : U64 (ofKey k) := ⟨by have := hk.lt; unfold ofKey; split <;> omega⟩
set_option maxHeartbeats 1000000 in
theorem numKeys_walk (f k : Nat) (w : World) (hf : U64 f) (hk : U64 k) :
    Calls Try.prog 7 #[.float .f64 f, .int .u64 (fb k)] w fun e w' => e = .returned (.bool true) ∧ w = w' := by
  have u1 : U64 (key f) := ⟨key_lt hf.lt⟩
  have u2 := u64_ofKey hk
  have u3 : U64 (canon f) := ⟨canon_lt hf.lt⟩
  have h1 : Hid (ofKey (key f) = canon f) := ofKey_key hf
  have h2 : Hid (key (canon f) = key f) := key_canon f
  go_enter Try.func7, Try.ntmps7
  go_wp2_with fail
  refine (key_c _ _ hf).mono ?_
  rintro e w1 ⟨rfl, rfl⟩
  go_wp2_with fail
  refine (float_c _ _ u1).mono ?_
  rintro e w1 ⟨rfl, rfl⟩
  rw [h1.out, h2.out]
  go_wp2_with (first | ((with_reducible refine (float_c _ _ (by assumption)).mono ?_); rintro e w1 ⟨rfl, rfl⟩) | ((with_reducible refine (key_c _ _ (by assumption)).mono ?_); rintro e w1 ⟨rfl, rfl⟩) | ((with_reducible refine (awake_c _).mono ?_); rintro e w1 ⟨rfl, rfl⟩) | ((with_reducible refine (rkey_c _ _ (by assumption)).mono ?_); rintro e w1 ⟨rfl, rfl⟩) | ((with_reducible refine (rcanon_c _ _).mono ?_); rintro e w1 ⟨rfl, rfl⟩) | ((with_reducible refine (canon_c _ _).mono ?_); rintro e w1 ⟨rfl, rfl⟩))
  go_ret
  exact ⟨rfl, rfl⟩
end Go.Proofs.Ytibgbihleeocpaa
