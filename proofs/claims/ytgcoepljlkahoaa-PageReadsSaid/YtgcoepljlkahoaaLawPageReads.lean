
/-
  offshootlaw05.PageReads returns true for every input, and leaves its arguments as they were: the row 'PageReadsSaid'. No conditions.
-/
import Derived.Test.YtgcoepljlkahoaaRow
import Derived.Test.YtgcoepljlkahoaaPgS
set_option linter.unusedVariables false
set_option linter.unusedSimpArgs false
namespace Go.Proofs.Ytgcoepljlkahoaa
open Go.ChangeShapes Go.WideShapes Go.ChangeAt Go.RowKit
open Go.ChangeMaps (open_string shut_string)

set_option maxRecDepth 100000 in
theorem pageReads_law : LawWalk 4 Try.f4 := by
  intro H enc W base vs ds ps hval hA hsz
  rw [Try.params4] at hA hval hsz
  obtain ⟨v0, vs0, d0, ds0, p0, q0, rfl, rfl, rfl, h0, r0⟩ := trodAll_cons hA
  obtain ⟨rfl, rfl, rfl⟩ := trodAll_nil r0
  obtain ⟨y0, rfl, rfl, rfl, w0⟩ := open_string Try.underlying9 (hval 0 9 v0 rfl rfl) h0
  obtain ⟨a0, rfl, b0⟩ := str_list w0
  exact pageReads_walk a0 W b0

set_option maxRecDepth 100000 in
theorem pageReads_lifted (os : Os) (started : os.Started) (H : Type) (enc : TypeId × Value → H) :
    ReturnsInHanded {} Try.checked os 4 .any (Rows.pageReadsSpec.pre6 enc Try.prog Try.f4 Rows.pageReadsRow.domain false) (Rows.pageReadsSpec.post enc Try.prog Try.f4 false true false false) :=
  lawLifted rfl Try.func4 (by kernel_rfl) (T := 4) rfl Try.underlying4 (by intro t ht; rw [Try.params4] at ht; simp only [List.mem_cons, List.not_mem_nil, or_false] at ht; subst ht; exact ⟨by kernel_rfl, of_decide_eq_true (by kernel_rfl)⟩)
    (by intro H ds hl; rw [Try.params4] at hl; match ds, hl with | [d0], _ => rfl)
    pageReads_law os started H enc
    (ChangeSpec.witness6 (enc := enc) (C := Try.checked) false ⟨#[], #[.string ByteArray.empty], []⟩ 8 (by kernel_rfl) (by kernel_rfl) (by kernel_rfl) (by kernel_rfl))

theorem pageReads_holds : Rows.PageReadsSaid :=
  OpenClaim.holds_of_wide 4 Try.f4 rfl rfl rfl rfl rfl rfl rfl ⟨rfl, rfl, rfl, rfl, rfl⟩ rfl rfl rfl rfl rfl (by kernel_rfl) Try.func4 (by kernel_rfl)
    (of_decide_eq_true (by kernel_rfl)) (by unfold Func.isWrapper; first | (rw [if_pos (by decide +kernel)]; kernel_rfl) | (rw [if_neg (by decide +kernel)]; exact ⟨rfl, rfl⟩))
    (fun os started H enc _ => pageReads_lifted os started H enc)

#print axioms pageReads_holds
end Go.Proofs.Ytgcoepljlkahoaa
