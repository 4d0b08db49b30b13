/-
  Frames that come in pieces: the pure law.
-/
import Derived.Test.YtijkliffgihglaaFrF
set_option linter.unusedSimpArgs false
set_option linter.unusedVariables false
namespace Go.Proofs.Ytijkliffgihglaa
open Go.RowKit

def flat : List (List UInt8) → List UInt8
  | [] => []
  | f :: fs => frameL f ++ flat fs
/-- how many of the frames stand whole in so many bytes -/
def cnt : List (List UInt8) → Nat → Nat
  | [], _ => 0
  | f :: fs, n => if (frameL f).length ≤ n then cnt fs (n - (frameL f).length) + 1 else 0
/-- where the first so many frames end -/
def endAt (fs : List (List UInt8)) (i : Nat) : Nat := (flat (fs.take i)).length
theorem endAt_zero (fs : List (List UInt8)) : endAt fs 0 = 0 := by simp [endAt, flat]
theorem endAt_succ (f : List UInt8) (fs : List (List UInt8)) (i : Nat) : endAt (f :: fs) (i + 1) = (frameL f).length + endAt fs i := by simp [endAt, flat]
theorem flat_append (a b : List (List UInt8)) : flat (a ++ b) = flat a ++ flat b := by
  induction a with
  | nil => rfl
  | cons f a ih => simp [flat, ih]
theorem cnt_le (fs : List (List UInt8)) : ∀ n, cnt fs n ≤ fs.length := by
  induction fs with
  | nil => intro n; simp [cnt]
  | cons f fs ih =>
    intro n
    unfold cnt
    split
    · simpa using ih _
    · simp
theorem endAt_cnt (fs : List (List UInt8)) : ∀ n, endAt fs (cnt fs n) ≤ n := by
  induction fs with
  | nil => intro n; simp [cnt, endAt, flat]
  | cons f fs ih =>
    intro n
    unfold cnt
    split
    · rename_i h
      rw [endAt_succ]
      have := ih (n - (frameL f).length)
      omega
    · rw [endAt_zero]; omega
theorem endAt_iff (fs : List (List UInt8)) : ∀ n i, i < fs.length → (endAt fs (i + 1) ≤ n ↔ i < cnt fs n) := by
  induction fs with
  | nil => intro n i h; simp at h
  | cons f fs ih =>
    intro n i h
    rw [endAt_succ]
    unfold cnt
    split
    · rename_i h1
      cases i with
      | zero => rw [endAt_zero]; omega
      | succ i =>
        have := ih (n - (frameL f).length) i (by simpa using h)
        omega
    · omega
theorem cnt_all (fs : List (List UInt8)) (n : Nat) (h : (flat fs).length ≤ n) : cnt fs n = fs.length := by
  rcases Nat.lt_or_ge (cnt fs n) fs.length with hl | hl
  · have h1 := (endAt_iff fs n (cnt fs n) hl).1 ?_
    · omega
    · have : endAt fs (cnt fs n + 1) ≤ (flat fs).length := by
        unfold endAt
        have e := flat_append (fs.take (cnt fs n + 1)) (fs.drop (cnt fs n + 1))
        rw [List.take_append_drop] at e
        rw [e, List.length_append]; omega
      omega
  · exact Nat.le_antisymm (cnt_le fs n) hl
theorem cnt_add (fs : List (List UInt8)) : ∀ j n, endAt fs j ≤ n → j ≤ fs.length → cnt fs n = j + cnt (fs.drop j) (n - endAt fs j) := by
  induction fs with
  | nil => intro j n _ h; simp at h; subst h; simp [endAt_zero]
  | cons f fs ih =>
    intro j n h1 h2
    cases j with
    | zero => simp [endAt_zero]
    | succ j =>
      rw [endAt_succ] at h1 ⊢
      have := ih j (n - (frameL f).length) (by omega) (by simpa using h2)
      rw [List.drop_succ_cons, Nat.sub_add_eq]
      conv => lhs; unfold cnt
      rw [if_pos (by omega), this]; omega
theorem take_flat (fs : List (List UInt8)) (j n : Nat) (h : endAt fs j ≤ n) : ((flat fs).take n).drop (endAt fs j) = (flat (fs.drop j)).take (n - endAt fs j) := by
  have e := flat_append (fs.take j) (fs.drop j)
  rw [List.take_append_drop] at e
  rw [e, List.drop_take]
  unfold endAt
  simp
theorem parse_take (fs : List (List UInt8)) : ∀ n k, (∀ f ∈ fs, f.length ≤ 300) → ((flat fs).take n).length ≤ k →
    parse k ((flat fs).take n) = (fs.take (cnt fs n), ((flat fs).take n).drop (endAt fs (cnt fs n)), false) := by
  induction fs with
  | nil =>
    intro n k _ _
    simp [flat, cnt, endAt]
    exact parse_short (by simp) k
  | cons f fs ih =>
    intro n k hf hk
    have hfl : f.length ≤ 300 := hf f (by simp)
    have hlen := frameL_len f
    by_cases h1 : (frameL f).length ≤ n
    · have e : (flat (f :: fs)).take n = frameL f ++ (flat fs).take (n - (frameL f).length) := by
        rw [show flat (f :: fs) = frameL f ++ flat fs from rfl, List.take_append, List.take_of_length_le h1]
      rw [e] at hk ⊢
      obtain ⟨j, hj, hp⟩ := parse_frame f _ k (by omega) hk
      rw [hp, ih (n - (frameL f).length) j (fun g hg => hf g (by simp [hg])) hj]
      have ec : cnt (f :: fs) n = cnt fs (n - (frameL f).length) + 1 := by rw [cnt, if_pos h1]
      rw [ec, endAt_succ, List.take_succ_cons]
      simp [List.drop_append]
    · have e : (flat (f :: fs)).take n = (frameL f).take n := by
        rw [show flat (f :: fs) = frameL f ++ flat fs from rfl, List.take_append_of_le_length (by omega)]
      have ec : cnt (f :: fs) n = 0 := by rw [cnt, if_neg h1]
      rw [e] at hk ⊢
      rw [ec, endAt_zero, List.take_zero, List.drop_zero]
      have hl : ((frameL f).take n).length = n := by rw [List.length_take]; omega
      by_cases h4 : n < 4
      · exact parse_short (by omega) k
      · have ht : ((frameL f).take n).take 4 = longL f.length := by
          rw [List.take_take, show min 4 n = 4 by omega, frameL_long]
          simp [longL]
        exact parse_cut (by omega) (by rw [ht, wide_long _ (by omega)]; omega) (by rw [ht, wide_long _ (by omega)]; omega) hk

/-- what a piece more brings -/
theorem parse_piece (fs : List (List UInt8)) (hf : ∀ f ∈ fs, f.length ≤ 300) (a n : Nat) (ha : a ≤ n) (hn : n ≤ (flat fs).length) :
    parse ((((flat fs).take a).drop (endAt fs (cnt fs a)) ++ ((flat fs).take n).drop a)).length ((((flat fs).take a).drop (endAt fs (cnt fs a)) ++ ((flat fs).take n).drop a)) =
      ((fs.drop (cnt fs a)).take (cnt fs n - cnt fs a), ((flat fs).take n).drop (endAt fs (cnt fs n)), false) ∧ cnt fs a ≤ cnt fs n := by
  have h0 := endAt_cnt fs a
  have hc := cnt_add fs (cnt fs a) n (by omega) (cnt_le fs a)
  have e : ((flat fs).take a).drop (endAt fs (cnt fs a)) ++ ((flat fs).take n).drop a = ((flat fs).take n).drop (endAt fs (cnt fs a)) := by
    apply List.ext_getElem
    · simp; omega
    · intro i h1 h2
      simp only [List.getElem_append, List.getElem_drop, List.getElem_take, List.length_drop, List.length_take]
      split
      · rfl
      · congr 1; omega
  rw [e, take_flat fs _ n (by omega)]
  have hp := parse_take (fs.drop (cnt fs a)) (n - endAt fs (cnt fs a)) _ (fun f hm => hf f (List.mem_of_mem_drop hm)) (Nat.le_refl _)
  rw [hp]
  have e1 : cnt fs n - cnt fs a = cnt (fs.drop (cnt fs a)) (n - endAt fs (cnt fs a)) := by omega
  refine ⟨?_, by omega⟩
  rw [e1]
  refine Prod.ext rfl (Prod.ext ?_ rfl)
  show _ = ((flat fs).take n).drop (endAt fs (cnt fs n))
  have e2 : endAt fs (cnt fs n) = endAt fs (cnt fs a) + endAt (fs.drop (cnt fs a)) (cnt (fs.drop (cnt fs a)) (n - endAt fs (cnt fs a))) := by
    rw [hc]
    unfold endAt
    rw [List.take_add, flat_append, List.length_append]
  rw [← take_flat fs _ n (by omega), List.drop_drop, e2]
end Go.Proofs.Ytijkliffgihglaa
