
/-
  The plain order of values: each is the same as itself; turned it is the other way round.
-/
import Derived.Test.YtipjelkdbbhcpaaValD
set_option linter.unusedSimpArgs false
set_option linter.unusedVariables false
namespace Go.Proofs.Ytipjelkdbbhcpaa
open Go.RowKit

theorem sgnI_self (x : Int) : sgnI x x = 0 := by simp [sgnI]
theorem sgnI_anti (x y : Int) : sgnI y x = - sgnI x y := by
  unfold sgnI
  split <;> split <;> (try split) <;> omega
theorem cmpF_self (x : Nat) : cmpF x x = 0 := by simp [cmpF]
theorem cmpF_anti (x y : Nat) : cmpF y x = - cmpF x y := by
  unfold cmpF
  split <;> split <;> (try split) <;> omega
theorem cmpB_self : ∀ s : List UInt8, Go.Lib.compareBytes s s = 0
  | [] => rfl
  | c :: s => by simp [Go.Lib.compareBytes, cmpB_self s]
theorem cmpB_anti : ∀ s t : List UInt8, Go.Lib.compareBytes t s = - Go.Lib.compareBytes s t
  | [], [] => by simp [Go.Lib.compareBytes]
  | [], _ :: _ => by simp [Go.Lib.compareBytes]
  | _ :: _, [] => by simp [Go.Lib.compareBytes]
  | c :: s, d :: t => by
    have ih := cmpB_anti s t
    simp only [Go.Lib.compareBytes]
    by_cases h1 : c < d
    · have h2 : ¬ d < c := fun h => UInt8.lt_irrefl _ (UInt8.lt_trans h h1)
      simp [h1, h2]
    · by_cases h2 : d < c
      · simp [h1, h2]
      · simp [h1, h2, ih]
mutual
theorem cmpV_self : ∀ v : Val, cmpV v v = 0
  | .mk k b n f s l => by
    have h := cmpVL_self l
    unfold cmpV
    rw [if_neg (by simp)]
    by_cases h1 : k = 1
    · simp [h1]
    rw [if_neg h1, if_neg (by omega), if_neg (by omega)]
    by_cases h3 : k = 3
    · rw [if_pos h3, cmpF_self]
    rw [if_neg h3]
    by_cases h4 : k = 4
    · rw [if_pos h4, cmpB_self]
    rw [if_neg h4]
    by_cases h5 : k = 5 ∨ k = 6
    · rw [if_pos h5, h]
    rw [if_neg h5, sgnI_self]
theorem cmpVL_self : ∀ l : List Val, cmpVL l l = 0
  | [] => by simp [cmpVL]
  | v :: l => by simp [cmpVL, cmpV_self v, cmpVL_self l]
end
mutual
theorem cmpV_anti : ∀ a b : Val, cmpV b a = - cmpV a b
  | .mk ka ba na fa sa la, .mk kb bb nb fb sb lb => by
    have h := cmpVL_anti la lb
    by_cases hne : rcls ka = rcls kb
    · have hc : (ka = 1 ∧ kb = 1) ∨ (ka = 2 ∧ kb = 2) ∨ (ka = 2 ∧ kb = 3) ∨ (ka = 3 ∧ kb = 2) ∨ (ka = 3 ∧ kb = 3) ∨ (ka = 4 ∧ kb = 4) ∨ ((ka = 5 ∨ ka = 6) ∧ kb = ka) ∨ (ka ≠ 1 ∧ ka ≠ 2 ∧ ka ≠ 3 ∧ ka ≠ 4 ∧ ka ≠ 5 ∧ ka ≠ 6 ∧ kb = ka) := by
        unfold rcls at hne
        split at hne <;> split at hne <;> omega
      rcases hc with ⟨rfl, rfl⟩ | ⟨rfl, rfl⟩ | ⟨rfl, rfl⟩ | ⟨rfl, rfl⟩ | ⟨rfl, rfl⟩ | ⟨rfl, rfl⟩ | ⟨h56, rfl⟩ | ⟨n1, n2, n3, n4, n5, n6, rfl⟩
      · simp [cmpV]
        cases ba <;> cases bb <;> simp
      · simp [cmpV]; exact sgnI_anti _ _
      · simp [cmpV, rcls]
      · simp [cmpV, rcls]
      · simp [cmpV]; exact cmpF_anti _ _
      · simp [cmpV]; exact cmpB_anti _ _
      · rcases h56 with rfl | rfl <;> simp [cmpV, h]
      · simp [cmpV, n1, n2, n3, n4, n5, n6]; exact sgnI_anti _ _
    · have hne' : ¬ rcls kb = rcls ka := fun e => hne e.symm
      simp [cmpV, hne, hne']; exact sgnI_anti _ _
theorem cmpVL_anti : ∀ a b : List Val, cmpVL b a = - cmpVL a b
  | [], [] => by simp [cmpVL]
  | [], _ :: _ => by simp [cmpVL]
  | _ :: _, [] => by simp [cmpVL]
  | a :: la, b :: lb => by
    have h1 := cmpV_anti a b
    have h2 := cmpVL_anti la lb
    simp only [cmpVL, h1, h2]
    by_cases h : cmpV a b = 0
    · simp [h]
    · simp [h]
end
end Go.Proofs.Ytipjelkdbbhcpaa
