/-
  offshootlaw01.NumSplits returns true for every input, and leaves its arguments as they were: the row 'NumSplitsSaid'. No conditions.
-/
import Derived.Test.YtibgbihleeocpaaRow
import Derived.Test.YtibgbihleeocpaaNumH
set_option linter.unusedVariables false
set_option linter.unusedSimpArgs false
namespace Go.Proofs.Ytibgbihleeocpaa
open Go.ChangeShapes Go.WideShapes Go.ChangeAt Go.RowKit
open Go.ChangeMaps (open_string shut_string)

theorem numSplits_law : LawWalk 11 Try.f11 := by
  intro H enc W base vs ds ps hval hA hsz
  rw [Try.params11] at hA hval hsz
  obtain ⟨v0, vs0, d0, ds0, p0, q0, rfl, rfl, rfl, h0, r0⟩ := trodAll_cons hA
  obtain ⟨rfl, rfl, rfl⟩ := trodAll_nil r0
  obtain ⟨a0, rfl, rfl, rfl, w0⟩ := open_int Try.underlying2 (hval 0 2 v0 rfl rfl) h0
  have b0 := I64.ofWf w0
  exact numSplits_walk a0 W b0

set_option maxRecDepth 100000 in
theorem numSplits_lifted (os : Os) (started : os.Started) (H : Type) (enc : TypeId × Value → H) :
    ReturnsInHanded {} Try.checked os 11 .any (Rows.numSplitsSpec.pre6 enc Try.prog Try.f11 Rows.numSplitsRow.domain false) (Rows.numSplitsSpec.post enc Try.prog Try.f11 false true false false) :=
  lawLifted rfl Try.func11 (by kernel_rfl) (T := 4) rfl Try.underlying4 (by intro t ht; rw [Try.params11] at ht; simp only [List.mem_cons, List.not_mem_nil, or_false] at ht; subst ht; exact ⟨by kernel_rfl, of_decide_eq_true (by kernel_rfl)⟩)
    (by intro H ds hl; rw [Try.params11] at hl; match ds, hl with | [d0], _ => rfl)
    numSplits_law os started H enc
    (ChangeSpec.witness6 (enc := enc) (C := Try.checked) false ⟨#[], #[.int .i64 0], []⟩ 8 (by kernel_rfl) (by kernel_rfl) (by kernel_rfl) (by kernel_rfl))

theorem numSplits_holds : Rows.NumSplitsSaid :=
  OpenClaim.holds_of_wide 11 Try.f11 rfl rfl rfl rfl rfl rfl rfl ⟨rfl, rfl, rfl, rfl, rfl⟩ rfl rfl rfl rfl rfl (by kernel_rfl) Try.func11 (by kernel_rfl)
    (of_decide_eq_true (by kernel_rfl)) (by unfold Func.isWrapper; first | (rw [if_pos (by decide +kernel)]; kernel_rfl) | (rw [if_neg (by decide +kernel)]; exact ⟨rfl, rfl⟩))
    (fun os started H enc _ => numSplits_lifted os started H enc)

#print axioms numSplits_holds
end Go.Proofs.Ytibgbihleeocpaa
