
/-
  offshootlaw02.ValMaps returns true for every input, and leaves its arguments as they were: the row 'ValMapsSaid'. No conditions.
-/
import Derived.Test.YtkbacjlnfmibaaaRow
import Derived.Test.YtkbacjlnfmibaaaMpC
import Derived.Test.YtkbacjlnfmibaaaPrt
set_option linter.unusedVariables false
set_option linter.unusedSimpArgs false
namespace Go.Proofs.Ytkbacjlnfmibaaa
open Go.ChangeShapes Go.WideShapes Go.ChangeAt Go.RowKit
open Go.ChangeMaps (open_string shut_string)

set_option maxRecDepth 100000 in
theorem valMaps_law : LawWalk 10 Try.f10 := by
  intro H enc W base vs ds ps hval hA hsz
  rw [Try.params10] at hA hval hsz
  obtain ⟨v0, vs0, d0, ds0, p0, q0, rfl, rfl, rfl, h0, r0⟩ := trodAll_cons hA
  obtain ⟨rfl, rfl, rfl⟩ := trodAll_nil r0
  obtain ⟨A0, len0, cap0, rfl⟩ := okWide_slice Try.underlying23 (hval 0 23 v0 rfl rfl)
  obtain ⟨fu0, hf0⟩ := h0
  obtain ⟨A0', cap0', l0, hc0, hp0, hl0, hm0⟩ := Parts.ofTrod (c := .slice A0 len0 cap0) hf0 (fun m hm => of_decide_eq_true (List.all_eq_true.1 hsz _ (DataW.weights_mem_each (j := 0) rfl rfl m hm)))
  cases hc0
  exact valMaps_walk A0 cap0 l0 W hp0 hl0 hm0

set_option maxRecDepth 100000 in
theorem valMaps_lifted (os : Os) (started : os.Started) (H : Type) (enc : TypeId × Value → H) :
    ReturnsInHanded {} Try.checked os 10 .any (Rows.valMapsSpec.pre6 enc Try.prog Try.f10 Rows.valMapsRow.domain false) (Rows.valMapsSpec.post enc Try.prog Try.f10 false true false false) :=
  lawLifted rfl Try.func10 (by kernel_rfl) (T := 4) rfl Try.underlying4 (by intro t ht; rw [Try.params10] at ht; simp only [List.mem_cons, List.not_mem_nil, or_false] at ht; subst ht; exact ⟨by kernel_rfl, of_decide_eq_true (by kernel_rfl)⟩)
    (by intro H ds hl; rw [Try.params10] at hl; match ds, hl with | [d0], _ => rfl)
    valMaps_law os started H enc
    (ChangeSpec.witness6 (enc := enc) (C := Try.checked) false ⟨#[], #[.slice none 0 0], []⟩ 8 (by kernel_rfl) (by kernel_rfl) (by kernel_rfl) (by kernel_rfl))

theorem valMaps_holds : Rows.ValMapsSaid :=
  OpenClaim.holds_of_wide 10 Try.f10 rfl rfl rfl rfl rfl rfl rfl ⟨rfl, rfl, rfl, rfl, rfl⟩ rfl rfl rfl rfl rfl (by kernel_rfl) Try.func10 (by kernel_rfl)
    (of_decide_eq_true (by kernel_rfl)) (by unfold Func.isWrapper; first | (rw [if_pos (by decide +kernel)]; kernel_rfl) | (rw [if_neg (by decide +kernel)]; exact ⟨rfl, rfl⟩))
    (fun os started H enc _ => valMaps_lifted os started H enc)

#print axioms valMaps_holds
end Go.Proofs.Ytkbacjlnfmibaaa
