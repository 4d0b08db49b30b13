
/-
  offshootlaw05.PagePlays returns true for every input, and leaves its arguments as they were: the row 'PagePlaysSaid'. No conditions.
-/
import Derived.Test.YtgcoepljlkahoaaRow
import Derived.Test.YtgcoepljlkahoaaPgW
set_option linter.unusedVariables false
set_option linter.unusedSimpArgs false
namespace Go.Proofs.Ytgcoepljlkahoaa
open Go.ChangeShapes Go.WideShapes Go.ChangeAt Go.RowKit
open Go.ChangeMaps (open_string shut_string)

set_option maxRecDepth 100000 in
theorem pagePlays_law : LawWalk 5 Try.f5 := by
  intro H enc W base vs ds ps hval hA hsz
  rw [Try.params5] at hA hval hsz
  obtain ⟨v0, vs0, d0, ds0, p0, q0, rfl, rfl, rfl, h0, r0⟩ := trodAll_cons hA
  obtain ⟨rfl, rfl, rfl⟩ := trodAll_nil r0
  obtain ⟨A0, len0, cap0, rfl⟩ := okWide_slice Try.underlying41 (hval 0 41 v0 rfl rfl)
  obtain ⟨fu0, hf0⟩ := h0
  obtain ⟨A0', cap0', n0', hc0, hp0, hm0⟩ := Acts.ofTrod (c := .slice A0 len0 cap0) hf0
  cases hc0
  exact pagePlays_walk A0 cap0 len0 W hp0 hm0

set_option maxRecDepth 100000 in
theorem pagePlays_lifted (os : Os) (started : os.Started) (H : Type) (enc : TypeId × Value → H) :
    ReturnsInHanded {} Try.checked os 5 .any (Rows.pagePlaysSpec.pre6 enc Try.prog Try.f5 Rows.pagePlaysRow.domain false) (Rows.pagePlaysSpec.post enc Try.prog Try.f5 false true false false) :=
  lawLifted rfl Try.func5 (by kernel_rfl) (T := 4) rfl Try.underlying4 (by intro t ht; rw [Try.params5] at ht; simp only [List.mem_cons, List.not_mem_nil, or_false] at ht; subst ht; exact ⟨by kernel_rfl, of_decide_eq_true (by kernel_rfl)⟩)
    (by intro H ds hl; rw [Try.params5] at hl; match ds, hl with | [d0], _ => rfl)
    pagePlays_law os started H enc
    (ChangeSpec.witness6 (enc := enc) (C := Try.checked) false ⟨#[], #[.slice none 0 0], []⟩ 8 (by kernel_rfl) (by kernel_rfl) (by kernel_rfl) (by kernel_rfl))

theorem pagePlays_holds : Rows.PagePlaysSaid :=
  OpenClaim.holds_of_wide 5 Try.f5 rfl rfl rfl rfl rfl rfl rfl ⟨rfl, rfl, rfl, rfl, rfl⟩ rfl rfl rfl rfl rfl (by kernel_rfl) Try.func5 (by kernel_rfl)
    (of_decide_eq_true (by kernel_rfl)) (by unfold Func.isWrapper; first | (rw [if_pos (by decide +kernel)]; kernel_rfl) | (rw [if_neg (by decide +kernel)]; exact ⟨rfl, rfl⟩))
    (fun os started H enc _ => pagePlays_lifted os started H enc)

#print axioms pagePlays_holds
end Go.Proofs.Ytgcoepljlkahoaa
