
/-
  offshootlaw18.TravSimple returns true for every input, and leaves its arguments as they were: the row 'TravSimpleSaid'. No conditions.
-/
import Derived.Test.YtfccplkfdhpdgaaRow
import Derived.Test.YtfccplkfdhpdgaaTrvT
set_option linter.unusedVariables false
set_option linter.unusedSimpArgs false
namespace Go.Proofs.Ytfccplkfdhpdgaa
open Go.ChangeShapes Go.WideShapes Go.ChangeAt Go.RowKit
open Go.ChangeMaps (open_string shut_string)

theorem travSimple_law : LawWalk 6 Try.f6 := by
  intro H enc W base vs ds ps hval hA hsz
  rw [Try.params6] at hA hval hsz
  obtain ⟨v0, vs0, d0, ds0, p0, q0, rfl, rfl, rfl, h0, r0⟩ := trodAll_cons hA
  obtain ⟨rfl, rfl, rfl⟩ := trodAll_nil r0
  obtain ⟨z0, rfl, _⟩ := okWide_struct Try.underlying34 (hval 0 34 v0 rfl rfl)
  obtain ⟨fu0, hf0⟩ := h0
  obtain ⟨k0, b0, n0, f0, s0, B0, l0, c0, P0, pl0, pc0, T0, tl0, tc0, q0, t0, he0, hb0⟩ := HasT.ofTrod hf0 (fun m hm => of_decide_eq_true (List.all_eq_true.1 hsz _ (DataW.weights_mem_each (j := 0) rfl rfl m hm)))
  have ez0 : Value.agg z0 = travV k0 b0 n0 f0 s0 B0 l0 c0 P0 pl0 pc0 T0 tl0 tc0 q0 := by simpa [Value.cells] using he0
  rw [ez0]
  exact travSimple_walk k0 b0 n0 f0 s0 B0 l0 c0 P0 pl0 pc0 T0 tl0 tc0 q0 t0 W hb0

set_option maxRecDepth 100000 in
theorem travSimple_lifted (os : Os) (started : os.Started) (H : Type) (enc : TypeId × Value → H) :
    ReturnsInHanded {} Try.checked os 6 .any (Rows.travSimpleSpec.pre6 enc Try.prog Try.f6 Rows.travSimpleRow.domain false) (Rows.travSimpleSpec.post enc Try.prog Try.f6 false true false false) :=
  lawLifted rfl Try.func6 (by kernel_rfl) (T := 4) rfl Try.underlying4 (by intro t ht; rw [Try.params6] at ht; simp only [List.mem_cons, List.not_mem_nil, or_false] at ht; subst ht; exact ⟨by kernel_rfl, of_decide_eq_true (by kernel_rfl)⟩)
    (by intro H ds hl; rw [Try.params6] at hl; match ds, hl with | [d0], _ => rfl)
    travSimple_law os started H enc
    (ChangeSpec.witness6 (enc := enc) (C := Try.checked) false ⟨#[], #[.agg #[.int .i64 0, .bool false, .int .i64 0, .float .f64 0, .string ByteArray.empty, .slice none 0 0, .slice none 0 0, .slice none 0 0, .int .i64 0]], []⟩ 8 (by kernel_rfl) (by kernel_rfl) (by kernel_rfl) (by kernel_rfl))

theorem travSimple_holds : Rows.TravSimpleSaid :=
  OpenClaim.holds_of_wide 6 Try.f6 rfl rfl rfl rfl rfl rfl rfl ⟨rfl, rfl, rfl, rfl, rfl⟩ rfl rfl rfl rfl rfl (by kernel_rfl) Try.func6 (by kernel_rfl)
    (of_decide_eq_true (by kernel_rfl)) (by unfold Func.isWrapper; first | (rw [if_pos (by decide +kernel)]; kernel_rfl) | (rw [if_neg (by decide +kernel)]; exact ⟨rfl, rfl⟩))
    (fun os started H enc _ => travSimple_lifted os started H enc)

#print axioms travSimple_holds
end Go.Proofs.Ytfccplkfdhpdgaa
