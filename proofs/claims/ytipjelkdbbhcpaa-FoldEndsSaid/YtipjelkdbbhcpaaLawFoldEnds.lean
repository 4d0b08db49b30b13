
/-
  offshootlaw19.FoldEnds returns true for every input, and leaves its arguments as they were: the row 'FoldEndsSaid'. No conditions.
-/
import Derived.Test.YtipjelkdbbhcpaaRow
import Derived.Test.YtipjelkdbbhcpaaFdF
import Derived.Test.YtipjelkdbbhcpaaPrt
set_option linter.unusedVariables false
set_option linter.unusedSimpArgs false
namespace Go.Proofs.Ytipjelkdbbhcpaa
open Go.ChangeShapes Go.WideShapes Go.ChangeAt Go.RowKit
open Go.ChangeMaps (open_string shut_string)

set_option maxRecDepth 100000 in
theorem foldEnds_law : LawWalk 4 Try.f4 := by
  intro H enc W base vs ds ps hval hA hsz
  rw [Try.params4] at hA hval hsz
  obtain ⟨v0, vs0, d0, ds0, p0, q0, rfl, rfl, rfl, h0, r0⟩ := trodAll_cons hA
  obtain ⟨v1, vs1, d1, ds1, p1, q1, rfl, rfl, rfl, h1, r1⟩ := trodAll_cons r0
  obtain ⟨rfl, rfl, rfl⟩ := trodAll_nil r1
  obtain ⟨A0, len0, cap0, rfl⟩ := okWide_slice Try.underlying22 (hval 0 22 v0 rfl rfl)
  obtain ⟨fu0, hf0⟩ := h0
  obtain ⟨A0', cap0', l0, hc0, hp0, hl0, hm0⟩ := Parts.ofTrod (c := .slice A0 len0 cap0) hf0 (fun m hm => of_decide_eq_true (List.all_eq_true.1 hsz _ (DataW.weights_mem_each (j := 0) rfl rfl m hm)))
  cases hc0
  obtain ⟨a1, rfl, rfl, rfl⟩ := open_bool Try.underlying4 (hval 1 4 v1 rfl rfl) h1
  exact foldEnds_walk A0 cap0 l0 a1 W hp0 hl0 hm0

set_option maxRecDepth 100000 in
theorem foldEnds_lifted (os : Os) (started : os.Started) (H : Type) (enc : TypeId × Value → H) :
    ReturnsInHanded {} Try.checked os 4 .any (Rows.foldEndsSpec.pre6 enc Try.prog Try.f4 Rows.foldEndsRow.domain false) (Rows.foldEndsSpec.post enc Try.prog Try.f4 false true false false) :=
  lawLifted rfl Try.func4 (by kernel_rfl) (T := 4) rfl Try.underlying4 (by intro t ht; rw [Try.params4] at ht; simp only [List.mem_cons, List.not_mem_nil, or_false] at ht; rcases ht with rfl | rfl <;> exact ⟨by kernel_rfl, of_decide_eq_true (by kernel_rfl)⟩)
    (by intro H ds hl; rw [Try.params4] at hl; match ds, hl with | [d0, d1], _ => rfl)
    foldEnds_law os started H enc
    (ChangeSpec.witness6 (enc := enc) (C := Try.checked) false ⟨#[], #[.slice none 0 0, .bool false], []⟩ 8 (by kernel_rfl) (by kernel_rfl) (by kernel_rfl) (by kernel_rfl))

theorem foldEnds_holds : Rows.FoldEndsSaid :=
  OpenClaim.holds_of_wide 4 Try.f4 rfl rfl rfl rfl rfl rfl rfl ⟨rfl, rfl, rfl, rfl, rfl⟩ rfl rfl rfl rfl rfl (by kernel_rfl) Try.func4 (by kernel_rfl)
    (of_decide_eq_true (by kernel_rfl)) (by unfold Func.isWrapper; first | (rw [if_pos (by decide +kernel)]; kernel_rfl) | (rw [if_neg (by decide +kernel)]; exact ⟨rfl, rfl⟩))
    (fun os started H enc _ => foldEnds_lifted os started H enc)

#print axioms foldEnds_holds
end Go.Proofs.Ytipjelkdbbhcpaa
