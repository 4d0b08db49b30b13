/-
  Feed behind an error; few; awake.
-/
import Derived.Test.YtijkliffgihglaaFrB
set_option linter.unusedSimpArgs false
set_option linter.unusedVariables false
namespace Go.Proofs.Ytijkliffgihglaa
open Go.RowKit

theorem feed_err_c (rb : Nat) (h s : List UInt8) (w : World) (hr : Rd w rb h 3) :
    Calls Try.prog 15 #[.pointer (some ⟨rb, 0, none⟩), .string (st s)] w (fun e w' => e = .returned (.tuple #[.slice none 0 0, .int .i64 3]) ∧ ∃ n, w' = w.drewN n) := by
  obtain ⟨hr0, hr1, hr2, hr3, hr4⟩ := hr
  go_enter Try.func15, Try.ntmps15
  go_wp2
  go_rounds 1
  go_quiet (fail)
  go_wp2
  go_ret2
  exact ⟨rfl, _, rfl⟩
theorem few_c (s : List UInt8) (w : World) (hl : s.length ≤ maxLen) :
    Calls Try.prog 14 #[.string (st s)] w (fun e w' => e = .returned (.string (st (s.take 300))) ∧ w = w') := by
  unfold maxLen at hl
  by_cases h : s.length ≤ 300
  · have h1 : ¬ 300 < (s.length : Int) := by omega
    go_enter Try.func14, Try.ntmps14
    go_wp2
    go_ret
    exact ⟨ret_str (List.take_of_length_le h).symm, rfl⟩
  · have h1 : 300 < (s.length : Int) := by omega
    have h2 : 300 ≤ (s.length : Int) := by omega
    have hx : (⟨s.toArray⟩ : ByteArray).extract 0 300 = ⟨(s.take 300).toArray⟩ := by
      apply ByteArray.ext
      simp [ByteArray.data_extract, List.extract_eq_take_drop]
    go_enter Try.func14, Try.ntmps14
    go_wp2
    go_ret
    exact ⟨rfl, rfl⟩

/-- an owned row as a slice that can be read -/
theorem owns_read {w : World} {base e n : Nat} {v : Value} {xs : List Value} (h : w.ownsRow base e 1 v n xs) :
    ∃ ao cap, v = .slice ao n cap ∧ xs.length = n ∧ (∀ k x, xs[k]? = some x → ∃ g, ao = some ⟨g, 0, none⟩ ∧ base ≤ g ∧ g < w.heap.size ∧ w.cell? ⟨g, k, none⟩ = some x) := by
  obtain ⟨hl, h⟩ := h
  rcases h with ⟨rfl, rfl⟩ | ⟨g, cap, cur, rfl, hb, hc, hn, hm, hs, ht⟩
  · refine ⟨none, 0, rfl, by simpa using hl, fun k x hk => ?_⟩
    have : xs = [] := List.eq_nil_of_length_eq_zero (by simpa using hl)
    rw [this] at hk; simp at hk
  · refine ⟨some ⟨g, 0, none⟩, cap, rfl, by simpa using hl, fun k x hk => ⟨g, rfl, hb, (Array.getElem?_eq_some_iff.1 hc).1, ?_⟩⟩
    rw [← ht, List.getElem?_take] at hk
    split at hk
    · simp only [World.cell?, hc]
      simpa using hk
    · cases hk
end Go.Proofs.Ytijkliffgihglaa
