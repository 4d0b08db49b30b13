
/-
  A value's bytes: the plain form, and val.bytes.
-/
import Derived.Test.YtkbacjlnfmibaaaValH
set_option linter.unusedSimpArgs false
set_option linter.unusedVariables false
namespace Go.Proofs.Ytkbacjlnfmibaaa
open Go.RowKit

mutual
/-- a value's bytes -/
def putV : Val → List UInt8
  | .mk k b n f s l => byte (k % 256) :: (if k = 0 then [] else if k = 1 then [if b then 1 else 0] else if k = 2 ∨ k = 7 ∨ k = 8 then eightL (n % 18446744073709551616) else if k = 3 then eightL (canon f) else if k = 4 then twoL s.length ++ s else twoL l.length ++ putVL l)
def putVL : List Val → List UInt8
  | [] => []
  | v :: l => putV v ++ putVL l
end
theorem putVL_append (a b : List Val) : putVL (a ++ b) = putVL a ++ putVL b := by
  induction a with
  | nil => simp [putVL]
  | cons v a ih => simp [putVL, ih]
theorem putVL_take {l : List Val} {i : Nat} {x : Val} (h : l[i]? = some x) : putVL (l.take (i + 1)) = putVL (l.take i) ++ putV x := by
  obtain ⟨hi, rfl⟩ := List.getElem?_eq_some_iff.1 h
  rw [List.take_succ_eq_append_getElem hi, putVL_append]
  simp [putVL]
theorem checkVL_zero {l : List Val} {d : Nat} (h : checkVL l d = 0) : ∀ x ∈ l, checkV x d = 0 := by
  induction l with
  | nil => intro x hx; cases hx
  | cons v l ih =>
    intro x hx
    rw [checkVL] at h
    by_cases h1 : checkV v d ≠ 0
    · rw [if_pos h1] at h; exact absurd h h1
    · rw [if_neg h1] at h
      rcases List.mem_cons.1 hx with rfl | h2
      · exact Classical.not_not.1 h1
      · exact ih h x h2
/-- what a value that may be is like -/
structure Fine (d : Nat) (k : Int) (b : Bool) (n : Int) (f : Nat) (s : List UInt8) (l : List Val) : Prop where
  deep : d ≤ 13
  sh : shape k b n f s l = true
  hs : s.length ≤ 500
  hl : l.length ≤ 1000
  parts : ∀ x ∈ l, checkV x (d + 1) = 0
  up : k = 6 → risesV l = true
theorem fine_of {d : Nat} {k : Int} {b : Bool} {n : Int} {f : Nat} {s : List UInt8} {l : List Val} (h : checkV (.mk k b n f s l) d = 0) : Fine d k b n f s l := by
  rw [checkV] at h
  by_cases h1 : 13 < d
  · rw [if_pos h1] at h; cases h
  rw [if_neg h1] at h
  cases h2 : shape k b n f s l
  · rw [h2, if_pos rfl] at h; cases h
  rw [h2, if_neg (by simp)] at h
  by_cases h3 : 500 < s.length ∨ 1000 < l.length
  · rw [if_pos h3] at h; cases h
  rw [if_neg h3] at h
  by_cases h4 : checkVL l (d + 1) ≠ 0
  · rw [if_pos h4] at h; exact absurd h h4
  rw [if_neg h4] at h
  by_cases h5 : k = 6 ∧ risesV l = false
  · rw [if_pos h5] at h; cases h
  refine ⟨by omega, h2, by omega, by omega, checkVL_zero (Classical.not_not.1 h4), fun hk => ?_⟩
  cases h6 : risesV l
  · exact absurd ⟨hk, h6⟩ h5
  · rfl
@[go_sem] theorem eightL_len (n : Int) : (eightL n).length = 8 := rfl
@[go_sem] theorem twoL_len (n : Int) : (twoL n).length = 2 := rfl
/-- a value that may be has so many bytes as are counted -/
theorem putV_len (v : Val) : ∀ d, checkV v d = 0 → (putV v).length = bsz v := by
  generalize hz : wsz v = z
  induction z using Nat.strongRecOn generalizing v with
  | _ z ih =>
    intro d h
    have hpart := fun i x => wsz_part (v := v) (x := x) (i := i)
    rw [hz] at hpart
    obtain ⟨k, b, n, f, s, l⟩ := v
    have hf := fine_of h
    have hr := shape_range hf.sh
    have hL : ∀ m : List Val, (∀ x ∈ m, x ∈ l) → (putVL m).length = bszL m := by
      intro m hm
      induction m with
      | nil => rfl
      | cons x m ihm =>
        have hx := hm x (by simp)
        obtain ⟨i, hi, he⟩ := List.getElem_of_mem hx
        have h1 := ih (wsz x) (hpart i x (by show l[i]? = some x; rw [List.getElem?_eq_getElem hi, he])) x rfl (d + 1) (hf.parts x hx)
        rw [putVL, bszL, List.length_append, h1, ihm fun y hy => hm y (by simp [hy])]
    have h1 := hL l fun x hx => hx
    rw [putV, bsz]
    simp only [List.length_cons]
    by_cases h0 : k = 0
    · simp [h0]
    by_cases h1' : k = 1
    · simp [h1']
    by_cases h2 : k = 2 ∨ k = 7 ∨ k = 8
    · rw [if_neg h0, if_neg h1', if_pos h2, if_neg h0, if_neg h1', if_neg (by omega), if_neg (by omega), eightL_len]
    by_cases h3 : k = 3
    · rw [if_neg h0, if_neg h1', if_neg h2, if_pos h3, if_neg h0, if_neg h1', if_neg (by omega), if_neg (by omega), eightL_len]
    by_cases h4 : k = 4
    · rw [if_neg h0, if_neg h1', if_neg h2, if_neg h3, if_pos h4, if_neg h0, if_neg h1', if_pos h4, List.length_append, twoL_len]; omega
    · rw [if_neg h0, if_neg h1', if_neg h2, if_neg h3, if_neg h4, if_neg h0, if_neg h1', if_neg h4, if_pos (by omega), List.length_append, twoL_len, h1]; omega
end Go.Proofs.Ytkbacjlnfmibaaa
