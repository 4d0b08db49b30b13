/-
  The frame laws' awake.
-/
import Derived.Test.YtijkliffgihglaaFrC
set_option linter.unusedSimpArgs false
set_option linter.unusedVariables false
namespace Go.Proofs.Ytijkliffgihglaa
open Go.RowKit

def TrueEnds (w : World) (e : Ending) (w' : World) : Prop := e = .returned (.bool true) ∧ Below w.heap.size w w'
theorem rd_alloc (w : World) (T : TypeId) : Rd (w.alloc (.cells #[.string (st []), .int .i64 0] T)) w.heap.size [] 0 :=
  ⟨by simp [go_sem], by simp [go_sem], by simp [go_sem], by simp [go_sem], by simp [go_sem]⟩
abbrev txt : List UInt8 := [116, 101, 120, 116]
abbrev f5 : List UInt8 := [0, 0, 0, 4, 116]
abbrev f3 : List UInt8 := [101, 120, 116]
theorem below_grown {w w1 w2 : World} {rb : Nat} (h : Below w.heap.size w w1) (hrb : w.heap.size ≤ rb) (hg : w1.grownBy w2 (some rb)) : Below w.heap.size w w2 :=
  h.grown hg h.size fun k hk => by cases hk; exact hrb

theorem feed5 (rb : Nat) (w : World) (hr : Rd w rb [] 0) : Calls Try.prog 15 #[.pointer (some ⟨rb, 0, none⟩), .string (st f5)] w fun e w' =>
    ∃ ao cap, e = .returned (.tuple #[.slice ao 0 cap, .int .i64 0]) ∧ Rd w' rb f5 0 ∧ w.grownBy w' (some rb) := by
  refine (feed_c rb [] f5 w hr (by decide)).mono ?_
  rintro e w' ⟨v, fs, r, b, hp', rfl, hown, hrd, hg⟩
  have hp : parse ([] ++ f5).length ([] ++ f5) = ([], f5, false) := by decide
  rw [hp] at hp'
  cases hp'
  obtain ⟨ao, cap, rfl, _, _⟩ := owns_read hown
  exact ⟨ao, cap, rfl, hrd, hg⟩
theorem feed3 (rb : Nat) (w : World) (hr : Rd w rb f5 0) : Calls Try.prog 15 #[.pointer (some ⟨rb, 0, none⟩), .string (st f3)] w fun e w' =>
    ∃ g cap, e = .returned (.tuple #[.slice (some ⟨g, 0, none⟩) 1 cap, .int .i64 0]) ∧ w'.cell? ⟨g, 0, none⟩ = some (.string (st txt)) ∧ w.grownBy w' (some rb) := by
  refine (feed_c rb f5 f3 w hr (by decide)).mono ?_
  rintro e w' ⟨v, fs, r, b, hp', rfl, hown, hrd, hg⟩
  have hp : parse (f5 ++ f3).length (f5 ++ f3) = ([txt], [], false) := by decide
  rw [hp] at hp'
  cases hp'
  obtain ⟨ao, cap, rfl, _, hk⟩ := owns_read hown
  obtain ⟨g, rfl, _, _, hc⟩ := hk 0 (.string (st txt)) rfl
  exact ⟨g, cap, rfl, hc, hg⟩

set_option maxHeartbeats 2000000 in
theorem awake_c (w : World) : Calls Try.prog 17 #[] w (TrueEnds w) := by
  have c1 := fun w => put_frame_c txt w (by decide)
  have hf : frameL txt = [0, 0, 0, 4, 116, 101, 120, 116] := by decide
  rw [hf] at c1
  have x5 : (st [0, 0, 0, 4, 116, 101, 120, 116]).extract 0 5 = st f5 := by apply ByteArray.ext; simp [ByteArray.data_extract]
  have x3 : (st [0, 0, 0, 4, 116, 101, 120, 116]).extract 5 8 = st f3 := by apply ByteArray.ext; simp [ByteArray.data_extract]
  go_enter Try.func17, Try.ntmps17
  go_wp2_with (first | ((with_reducible refine (c1 _).mono ?_); rintro e w1 ⟨rfl, hb⟩; (first | ((with_reducible obtain ⟨p, hw''⟩ := In.of2 p hb); subst hw'') | (obtain ⟨p, hw''⟩ := In.of hb; subst hw''))) | ((with_reducible refine (feed5 _ _ (rd_alloc _ _)).mono ?_); rintro e w1 ⟨ao, cap, rfl, hrd, hg⟩) | ((with_reducible refine (feed3 _ _ hrd).mono ?_); rintro e w2 ⟨g, cap', rfl, hc, hg2⟩))
  go_ret
  exact ⟨rfl, below_grown (below_grown (p.h.alloc p.h.size _) p.h.size hg) p.h.size hg2⟩
end Go.Proofs.Ytijkliffgihglaa
