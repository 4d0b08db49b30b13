/-
  offshootlaw22.FramePieces returns true for every input, and leaves its arguments as they were: the row 'FramePiecesSaid'. No conditions.
-/
import Derived.Test.YtijkliffgihglaaRow
import Derived.Test.YtijkliffgihglaaFrI
set_option linter.unusedVariables false
set_option linter.unusedSimpArgs false
namespace Go.Proofs.Ytijkliffgihglaa
open Go.ChangeShapes Go.WideShapes Go.ChangeAt Go.RowKit
open Go.ChangeMaps (open_string shut_string)

theorem framePieces_law : LawWalk 4 Try.f4 := by
  intro H enc W base vs ds ps hval hA hsz
  rw [Try.params4] at hA hval hsz
  obtain ⟨v0, vs0, d0, ds0, p0, q0, rfl, rfl, rfl, h0, r0⟩ := trodAll_cons hA
  obtain ⟨v1, vs1, d1, ds1, p1, q1, rfl, rfl, rfl, h1, r1⟩ := trodAll_cons r0
  obtain ⟨rfl, rfl, rfl⟩ := trodAll_nil r1
  obtain ⟨A0, len0, cap0, rfl⟩ := okWide_slice Try.underlying34 (hval 0 34 v0 rfl rfl)
  obtain ⟨xs0, b0⟩ := Strs.ofTrod Try.underlying34 Try.underlying9 (by kernel_rfl) h0
  obtain ⟨A1, len1, cap1, rfl⟩ := okWide_slice Try.underlying35 (hval 1 35 v1 rfl rfl)
  obtain ⟨xs1, b1⟩ := Ints.ofTrod Try.underlying35 Try.underlying3 (by kernel_rfl) h1
  exact framePieces_walk A0 len0 cap0 xs0 A1 len1 cap1 xs1 W b0 b1

set_option maxRecDepth 100000 in
theorem framePieces_lifted (os : Os) (started : os.Started) (H : Type) (enc : TypeId × Value → H) :
    ReturnsInHanded {} Try.checked os 4 .any (Rows.framePiecesSpec.pre6 enc Try.prog Try.f4 Rows.framePiecesRow.domain false) (Rows.framePiecesSpec.post enc Try.prog Try.f4 false true false false) :=
  lawLifted rfl Try.func4 (by kernel_rfl) (T := 4) rfl Try.underlying4 (by intro t ht; rw [Try.params4] at ht; simp only [List.mem_cons, List.not_mem_nil, or_false] at ht; rcases ht with rfl | rfl <;> exact ⟨by kernel_rfl, of_decide_eq_true (by kernel_rfl)⟩)
    (by intro H ds hl; rw [Try.params4] at hl; match ds, hl with | [d0, d1], _ => rfl)
    framePieces_law os started H enc
    (ChangeSpec.witness6 (enc := enc) (C := Try.checked) false ⟨#[], #[.slice none 0 0, .slice none 0 0], []⟩ 8 (by kernel_rfl) (by kernel_rfl) (by kernel_rfl) (by kernel_rfl))

theorem framePieces_holds : Rows.FramePiecesSaid :=
  OpenClaim.holds_of_wide 4 Try.f4 rfl rfl rfl rfl rfl rfl rfl ⟨rfl, rfl, rfl, rfl, rfl⟩ rfl rfl rfl rfl rfl (by kernel_rfl) Try.func4 (by kernel_rfl)
    (of_decide_eq_true (by kernel_rfl)) (by unfold Func.isWrapper; first | (rw [if_pos (by decide +kernel)]; kernel_rfl) | (rw [if_neg (by decide +kernel)]; exact ⟨rfl, rfl⟩))
    (fun os started H enc _ => framePieces_lifted os started H enc)

#print axioms framePieces_holds
end Go.Proofs.Ytijkliffgihglaa
