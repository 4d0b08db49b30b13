
/-
  The walks of the laws NumAdds, NumBack, NumOrder, NumKeys: each returns true, the world as it was.
-/
import Derived.Test.YtipjelkdbbhcpaaNumC
set_option linter.unusedSimpArgs false
set_option linter.unusedVariables false
namespace Go.Proofs.Ytipjelkdbbhcpaa
open Go.RowKit

theorem clip_yes {x : Int} (h : fits x = true) : (clip x == wrap64 x) = true := by
  unfold clip; rw [if_pos h, wrap_fits h]; simp
theorem clip_no {x : Int} (h : fits x = false) : (clip x == 0) = true := by
  unfold clip; rw [h]; simp
theorem clip_i64 (x : Int) : I64 (clip x) := by
  unfold clip
  split
  · rename_i h; unfold fits at h; simp at h; exact ⟨h.1, h.2⟩
  · exact ⟨by omega, by omega⟩

theorem sub_back {a b : Int} (ha : I64 a) (h : fits (a + b) = true) : fits (clip (a + b) - b) = true ∧ clip (clip (a + b) - b) = a := by
  have e : clip (a + b) - b = a := by unfold clip; rw [if_pos h]; omega
  rw [e]
  have : fits a = true := by unfold fits; have := ha.lo; have := ha.hi; simp; omega
  exact ⟨this, by unfold clip; rw [if_pos this]⟩
theorem cmp_turn (a b : Nat) : (cmpF b a == wrap64 (-cmpF a b)) = true := by
  unfold cmpF
  by_cases h : key a < key b
  · rw [if_pos h, if_neg (by omega), if_pos h]; unfold wrap64; decide
  · by_cases h2 : key b < key a
    · rw [if_pos h2, if_neg h, if_pos h2]; unfold wrap64; decide
    · rw [if_neg h2, if_neg h, if_neg h, if_neg h2]; unfold wrap64; decide
theorem cmp_kl (a b : Nat) : (kl a b == decide (cmpF a b < 0)) = true := by
  unfold kl cmpF
  by_cases h : key a < key b
  · rw [if_pos h]; simp [h]
  · by_cases h2 : key b < key a
    · rw [if_neg h, if_pos h2]; simp [h]
    · rw [if_neg h, if_neg h2]; simp [h]
theorem cmp_ke (a b : Nat) : ((key a == key b) == (cmpF a b == 0)) = true := by
  unfold cmpF
  by_cases h : key a < key b
  · rw [if_pos h]; simp; omega
  · by_cases h2 : key b < key a
    · rw [if_neg h, if_pos h2]; simp; omega
    · rw [if_neg h, if_neg h2]; simp; omega
theorem isNaN_canon (x : Nat) : Fl.isNaN (canon x) = Fl.isNaN x := by
  unfold canon
  cases h : Fl.isNaN x
  · simp [h]
  · simp; decide
theorem canon_canon (x : Nat) : canon (canon x) = canon x := by
  show (if Fl.isNaN (canon x) then 9221120237041090561 else canon x) = canon x
  rw [isNaN_canon]
  cases h : Fl.isNaN x
  · simp
  · unfold canon; rw [h]; simp
theorem key_canon (x : Nat) : key (canon x) = key x := by
  unfold key; rw [canon_canon]
theorem ofKey_key {x : Nat} (h : U64 x) : ofKey (key x) = canon x := by
  have := canon_lt h.lt
  unfold ofKey key
  split <;> split <;> omega
theorem key_ofKey {x : Nat} (h : U64 x) : (key (ofKey (key x)) == key x) = true := by
  rw [ofKey_key h, key_canon]; simp
theorem u64_ofKey {k : Nat} (hk : U64 k) : U64 (ofKey k) := ⟨by have := hk.lt; unfold ofKey; split <;> omega⟩
end Go.Proofs.Ytipjelkdbbhcpaa
