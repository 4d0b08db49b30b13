
/-
  offshootlaw05.PageFull returns true for every input, and leaves its arguments as they were: the row 'PageFullSaid'. No conditions.
-/
import Derived.Test.YtgcoepljlkahoaaRow
import Derived.Test.YtgcoepljlkahoaaPgJ
set_option linter.unusedVariables false
set_option linter.unusedSimpArgs false
namespace Go.Proofs.Ytgcoepljlkahoaa
open Go.ChangeShapes Go.WideShapes Go.ChangeAt Go.RowKit
open Go.ChangeMaps (open_string shut_string)

set_option maxRecDepth 100000 in
theorem pageFull_law : LawWalk 3 Try.f3 := by
  intro H enc W base vs ds ps hval hA hsz
  rw [Try.params3] at hA hval hsz
  obtain ⟨v0, vs0, d0, ds0, p0, q0, rfl, rfl, rfl, h0, r0⟩ := trodAll_cons hA
  obtain ⟨rfl, rfl, rfl⟩ := trodAll_nil r0
  obtain ⟨A0, len0, cap0, rfl⟩ := okWide_slice Try.underlying22 (hval 0 22 v0 rfl rfl)
  obtain ⟨xs0, b0⟩ := Ints.ofTrod Try.underlying22 Try.underlying3 (by kernel_rfl) h0
  exact pageFull_walk A0 len0 cap0 xs0 W b0

set_option maxRecDepth 100000 in
theorem pageFull_lifted (os : Os) (started : os.Started) (H : Type) (enc : TypeId × Value → H) :
    ReturnsInHanded {} Try.checked os 3 .any (Rows.pageFullSpec.pre6 enc Try.prog Try.f3 Rows.pageFullRow.domain false) (Rows.pageFullSpec.post enc Try.prog Try.f3 false true false false) :=
  lawLifted rfl Try.func3 (by kernel_rfl) (T := 4) rfl Try.underlying4 (by intro t ht; rw [Try.params3] at ht; simp only [List.mem_cons, List.not_mem_nil, or_false] at ht; subst ht; exact ⟨by kernel_rfl, of_decide_eq_true (by kernel_rfl)⟩)
    (by intro H ds hl; rw [Try.params3] at hl; match ds, hl with | [d0], _ => rfl)
    pageFull_law os started H enc
    (ChangeSpec.witness6 (enc := enc) (C := Try.checked) false ⟨#[], #[.slice none 0 0], []⟩ 8 (by kernel_rfl) (by kernel_rfl) (by kernel_rfl) (by kernel_rfl))

theorem pageFull_holds : Rows.PageFullSaid :=
  OpenClaim.holds_of_wide 3 Try.f3 rfl rfl rfl rfl rfl rfl rfl ⟨rfl, rfl, rfl, rfl, rfl⟩ rfl rfl rfl rfl rfl (by kernel_rfl) Try.func3 (by kernel_rfl)
    (of_decide_eq_true (by kernel_rfl)) (by unfold Func.isWrapper; first | (rw [if_pos (by decide +kernel)]; kernel_rfl) | (rw [if_neg (by decide +kernel)]; exact ⟨rfl, rfl⟩))
    (fun os started H enc _ => pageFull_lifted os started H enc)

#print axioms pageFull_holds
end Go.Proofs.Ytgcoepljlkahoaa
