
/-
  offshootlaw19.FoldGroups returns true for every input, and leaves its arguments as they were: the row 'FoldGroupsSaid'. No conditions.
-/
import Derived.Test.YtipjelkdbbhcpaaRow
import Derived.Test.YtipjelkdbbhcpaaGrG
import Derived.Test.YtipjelkdbbhcpaaPrt
set_option linter.unusedVariables false
set_option linter.unusedSimpArgs false
namespace Go.Proofs.Ytipjelkdbbhcpaa
open Go.ChangeShapes Go.WideShapes Go.ChangeAt Go.RowKit
open Go.ChangeMaps (open_string shut_string)

set_option maxRecDepth 100000 in
theorem foldGroups_law : LawWalk 8 Try.f8 := by
  intro H enc W base vs ds ps hval hA hsz
  rw [Try.params8] at hA hval hsz
  obtain ⟨v0, vs0, d0, ds0, p0, q0, rfl, rfl, rfl, h0, r0⟩ := trodAll_cons hA
  obtain ⟨rfl, rfl, rfl⟩ := trodAll_nil r0
  obtain ⟨A0, len0, cap0, rfl⟩ := okWide_slice Try.underlying22 (hval 0 22 v0 rfl rfl)
  obtain ⟨fu0, hf0⟩ := h0
  obtain ⟨A0', cap0', l0, hc0, hp0, hl0, hm0⟩ := Parts.ofTrod (c := .slice A0 len0 cap0) hf0 (fun m hm => of_decide_eq_true (List.all_eq_true.1 hsz _ (DataW.weights_mem_each (j := 0) rfl rfl m hm)))
  cases hc0
  exact foldGroups_walk A0 cap0 l0 W hp0 hl0 hm0

set_option maxRecDepth 100000 in
theorem foldGroups_lifted (os : Os) (started : os.Started) (H : Type) (enc : TypeId × Value → H) :
    ReturnsInHanded {} Try.checked os 8 .any (Rows.foldGroupsSpec.pre6 enc Try.prog Try.f8 Rows.foldGroupsRow.domain false) (Rows.foldGroupsSpec.post enc Try.prog Try.f8 false true false false) :=
  lawLifted rfl Try.func8 (by kernel_rfl) (T := 4) rfl Try.underlying4 (by intro t ht; rw [Try.params8] at ht; simp only [List.mem_cons, List.not_mem_nil, or_false] at ht; subst ht; exact ⟨by kernel_rfl, of_decide_eq_true (by kernel_rfl)⟩)
    (by intro H ds hl; rw [Try.params8] at hl; match ds, hl with | [d0], _ => rfl)
    foldGroups_law os started H enc
    (ChangeSpec.witness6 (enc := enc) (C := Try.checked) false ⟨#[], #[.slice none 0 0], []⟩ 8 (by kernel_rfl) (by kernel_rfl) (by kernel_rfl) (by kernel_rfl))

theorem foldGroups_holds : Rows.FoldGroupsSaid :=
  OpenClaim.holds_of_wide 8 Try.f8 rfl rfl rfl rfl rfl rfl rfl ⟨rfl, rfl, rfl, rfl, rfl⟩ rfl rfl rfl rfl rfl (by kernel_rfl) Try.func8 (by kernel_rfl)
    (of_decide_eq_true (by kernel_rfl)) (by unfold Func.isWrapper; first | (rw [if_pos (by decide +kernel)]; kernel_rfl) | (rw [if_neg (by decide +kernel)]; exact ⟨rfl, rfl⟩))
    (fun os started H enc _ => foldGroups_lifted os started H enc)

#print axioms foldGroups_holds
end Go.Proofs.Ytipjelkdbbhcpaa
