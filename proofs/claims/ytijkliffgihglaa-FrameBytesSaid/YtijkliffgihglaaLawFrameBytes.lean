/-
  offshootlaw22.FrameBytes returns true for every input, and leaves its arguments as they were: the row 'FrameBytesSaid'. No conditions.
-/
import Derived.Test.YtijkliffgihglaaRow
import Derived.Test.YtijkliffgihglaaFrE
set_option linter.unusedVariables false
set_option linter.unusedSimpArgs false
namespace Go.Proofs.Ytijkliffgihglaa
open Go.ChangeShapes Go.WideShapes Go.ChangeAt Go.RowKit
open Go.ChangeMaps (open_string shut_string)

theorem frameBytes_law : LawWalk 6 Try.f6 := by
  intro H enc W base vs ds ps hval hA hsz
  rw [Try.params6] at hA hval hsz
  obtain ⟨v0, vs0, d0, ds0, p0, q0, rfl, rfl, rfl, h0, r0⟩ := trodAll_cons hA
  obtain ⟨rfl, rfl, rfl⟩ := trodAll_nil r0
  obtain ⟨y0, rfl, rfl, rfl, w0⟩ := open_string Try.underlying9 (hval 0 9 v0 rfl rfl) h0
  obtain ⟨a0, rfl, b0⟩ := str_list w0
  exact frameBytes_walk a0 W b0

set_option maxRecDepth 100000 in
theorem frameBytes_lifted (os : Os) (started : os.Started) (H : Type) (enc : TypeId × Value → H) :
    ReturnsInHanded {} Try.checked os 6 .any (Rows.frameBytesSpec.pre6 enc Try.prog Try.f6 Rows.frameBytesRow.domain false) (Rows.frameBytesSpec.post enc Try.prog Try.f6 false true false false) :=
  lawLifted rfl Try.func6 (by kernel_rfl) (T := 4) rfl Try.underlying4 (by intro t ht; rw [Try.params6] at ht; simp only [List.mem_cons, List.not_mem_nil, or_false] at ht; subst ht; exact ⟨by kernel_rfl, of_decide_eq_true (by kernel_rfl)⟩)
    (by intro H ds hl; rw [Try.params6] at hl; match ds, hl with | [d0], _ => rfl)
    frameBytes_law os started H enc
    (ChangeSpec.witness6 (enc := enc) (C := Try.checked) false ⟨#[], #[.string ByteArray.empty], []⟩ 8 (by kernel_rfl) (by kernel_rfl) (by kernel_rfl) (by kernel_rfl))

theorem frameBytes_holds : Rows.FrameBytesSaid :=
  OpenClaim.holds_of_wide 6 Try.f6 rfl rfl rfl rfl rfl rfl rfl ⟨rfl, rfl, rfl, rfl, rfl⟩ rfl rfl rfl rfl rfl (by kernel_rfl) Try.func6 (by kernel_rfl)
    (of_decide_eq_true (by kernel_rfl)) (by unfold Func.isWrapper; first | (rw [if_pos (by decide +kernel)]; kernel_rfl) | (rw [if_neg (by decide +kernel)]; exact ⟨rfl, rfl⟩))
    (fun os started H enc _ => frameBytes_lifted os started H enc)

#print axioms frameBytes_holds
end Go.Proofs.Ytijkliffgihglaa
