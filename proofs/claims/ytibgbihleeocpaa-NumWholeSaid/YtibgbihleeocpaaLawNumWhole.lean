/-
  offshootlaw01.NumWhole returns true for every input, and leaves its arguments as they were: the row 'NumWholeSaid'. No conditions.
-/
import Derived.Test.YtibgbihleeocpaaRow
import Derived.Test.YtibgbihleeocpaaNumH
set_option linter.unusedVariables false
set_option linter.unusedSimpArgs false
namespace Go.Proofs.Ytibgbihleeocpaa
open Go.ChangeShapes Go.WideShapes Go.ChangeAt Go.RowKit
open Go.ChangeMaps (open_string shut_string)

theorem numWhole_law : LawWalk 12 Try.f12 := by
  intro H enc W base vs ds ps hval hA hsz
  rw [Try.params12] at hA hval hsz
  obtain ⟨v0, vs0, d0, ds0, p0, q0, rfl, rfl, rfl, h0, r0⟩ := trodAll_cons hA
  obtain ⟨rfl, rfl, rfl⟩ := trodAll_nil r0
  obtain ⟨a0, rfl, rfl, rfl, w0⟩ := open_float Try.underlying22 (hval 0 22 v0 rfl rfl) h0
  have b0 := U64.ofFloat w0
  exact numWhole_walk a0 W b0

set_option maxRecDepth 100000 in
theorem numWhole_lifted (os : Os) (started : os.Started) (H : Type) (enc : TypeId × Value → H) :
    ReturnsInHanded {} Try.checked os 12 .any (Rows.numWholeSpec.pre6 enc Try.prog Try.f12 Rows.numWholeRow.domain false) (Rows.numWholeSpec.post enc Try.prog Try.f12 false true false false) :=
  lawLifted rfl Try.func12 (by kernel_rfl) (T := 4) rfl Try.underlying4 (by intro t ht; rw [Try.params12] at ht; simp only [List.mem_cons, List.not_mem_nil, or_false] at ht; subst ht; exact ⟨by kernel_rfl, of_decide_eq_true (by kernel_rfl)⟩)
    (by intro H ds hl; rw [Try.params12] at hl; match ds, hl with | [d0], _ => rfl)
    numWhole_law os started H enc
    (ChangeSpec.witness6 (enc := enc) (C := Try.checked) false ⟨#[], #[.float .f64 0], []⟩ 8 (by kernel_rfl) (by kernel_rfl) (by kernel_rfl) (by kernel_rfl))

theorem numWhole_holds : Rows.NumWholeSaid :=
  OpenClaim.holds_of_wide 12 Try.f12 rfl rfl rfl rfl rfl rfl rfl ⟨rfl, rfl, rfl, rfl, rfl⟩ rfl rfl rfl rfl rfl (by kernel_rfl) Try.func12 (by kernel_rfl)
    (of_decide_eq_true (by kernel_rfl)) (by unfold Func.isWrapper; first | (rw [if_pos (by decide +kernel)]; kernel_rfl) | (rw [if_neg (by decide +kernel)]; exact ⟨rfl, rfl⟩))
    (fun os started H enc _ => numWhole_lifted os started H enc)

#print axioms numWhole_holds
end Go.Proofs.Ytibgbihleeocpaa
