
/-
  offshootlaw16.PredFloats returns true for every input, and leaves its arguments as they were: the row 'PredFloatsSaid'. No conditions.
-/
import Derived.Test.YtglcnnnjdkjggaaRow
import Derived.Test.YtglcnnnjdkjggaaPrdE
set_option linter.unusedVariables false
set_option linter.unusedSimpArgs false
namespace Go.Proofs.Ytglcnnnjdkjggaa
open Go.ChangeShapes Go.WideShapes Go.ChangeAt Go.RowKit
open Go.ChangeMaps (open_string shut_string)

set_option maxRecDepth 100000 in
theorem predFloats_law : LawWalk 4 Try.f4 := by
  intro H enc W base vs ds ps hval hA hsz
  rw [Try.params4] at hA hval hsz
  obtain ⟨v0, vs0, d0, ds0, p0, q0, rfl, rfl, rfl, h0, r0⟩ := trodAll_cons hA
  obtain ⟨v1, vs1, d1, ds1, p1, q1, rfl, rfl, rfl, h1, r1⟩ := trodAll_cons r0
  obtain ⟨v2, vs2, d2, ds2, p2, q2, rfl, rfl, rfl, h2, r2⟩ := trodAll_cons r1
  obtain ⟨rfl, rfl, rfl⟩ := trodAll_nil r2
  obtain ⟨a0, rfl, rfl, rfl, w0⟩ := open_int Try.underlying2 (hval 0 2 v0 rfl rfl) h0
  have b0 := I64.ofWf w0
  obtain ⟨a1, rfl, rfl, rfl, w1⟩ := open_float Try.underlying29 (hval 1 29 v1 rfl rfl) h1
  have b1 := U64.ofFloat w1
  obtain ⟨a2, rfl, rfl, rfl, w2⟩ := open_float Try.underlying29 (hval 2 29 v2 rfl rfl) h2
  have b2 := U64.ofFloat w2
  exact predFloats_walk a0 a1 a2 W b0 b1 b2

set_option maxRecDepth 100000 in
theorem predFloats_lifted (os : Os) (started : os.Started) (H : Type) (enc : TypeId × Value → H) :
    ReturnsInHanded {} Try.checked os 4 .any (Rows.predFloatsSpec.pre6 enc Try.prog Try.f4 Rows.predFloatsRow.domain false) (Rows.predFloatsSpec.post enc Try.prog Try.f4 false true false false) :=
  lawLifted rfl Try.func4 (by kernel_rfl) (T := 4) rfl Try.underlying4 (by intro t ht; rw [Try.params4] at ht; simp only [List.mem_cons, List.not_mem_nil, or_false] at ht; rcases ht with rfl | rfl | rfl <;> exact ⟨by kernel_rfl, of_decide_eq_true (by kernel_rfl)⟩)
    (by intro H ds hl; rw [Try.params4] at hl; match ds, hl with | [d0, d1, d2], _ => rfl)
    predFloats_law os started H enc
    (ChangeSpec.witness6 (enc := enc) (C := Try.checked) false ⟨#[], #[.int .i64 0, .float .f64 0, .float .f64 0], []⟩ 8 (by kernel_rfl) (by kernel_rfl) (by kernel_rfl) (by kernel_rfl))

theorem predFloats_holds : Rows.PredFloatsSaid :=
  OpenClaim.holds_of_wide 4 Try.f4 rfl rfl rfl rfl rfl rfl rfl ⟨rfl, rfl, rfl, rfl, rfl⟩ rfl rfl rfl rfl rfl (by kernel_rfl) Try.func4 (by kernel_rfl)
    (of_decide_eq_true (by kernel_rfl)) (by unfold Func.isWrapper; first | (rw [if_pos (by decide +kernel)]; kernel_rfl) | (rw [if_neg (by decide +kernel)]; exact ⟨rfl, rfl⟩))
    (fun os started H enc _ => predFloats_lifted os started H enc)

#print axioms predFloats_holds
end Go.Proofs.Ytglcnnnjdkjggaa
