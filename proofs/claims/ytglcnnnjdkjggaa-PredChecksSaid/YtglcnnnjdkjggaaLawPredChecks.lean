
/-
  offshootlaw16.PredChecks returns true for every input, and leaves its arguments as they were: the row 'PredChecksSaid'. No conditions.
-/
import Derived.Test.YtglcnnnjdkjggaaRow
import Derived.Test.YtglcnnnjdkjggaaPrb
set_option linter.unusedVariables false
set_option linter.unusedSimpArgs false
namespace Go.Proofs.Ytglcnnnjdkjggaa
open Go.ChangeShapes Go.WideShapes Go.ChangeAt Go.RowKit
open Go.ChangeMaps (open_string shut_string)

set_option maxRecDepth 100000 in
theorem predChecks_law : LawWalk 3 Try.f3 := by
  intro H enc W base vs ds ps hval hA hsz
  rw [Try.params3] at hA hval hsz
  obtain ⟨v0, vs0, d0, ds0, p0, q0, rfl, rfl, rfl, h0, r0⟩ := trodAll_cons hA
  obtain ⟨rfl, rfl, rfl⟩ := trodAll_nil r0
  obtain ⟨z0, rfl, _⟩ := okWide_struct Try.underlying25 (hval 0 25 v0 rfl rfl)
  obtain ⟨fu0, hf0⟩ := h0
  obtain ⟨x0, hb0⟩ := HasQ.ofTrod fu0 _ _ hf0 (fun m hm => of_decide_eq_true (List.all_eq_true.1 hsz _ (DataW.weights_mem_each (j := 0) rfl rfl m hm)))
  replace hb0 : HasQ W (.agg z0) x0 := by simpa [Value.cells] using hb0
  exact predChecks_walk (.agg z0) x0 W hb0

set_option maxRecDepth 100000 in
theorem predChecks_lifted (os : Os) (started : os.Started) (H : Type) (enc : TypeId × Value → H) :
    ReturnsInHanded {} Try.checked os 3 .any (Rows.predChecksSpec.pre6 enc Try.prog Try.f3 Rows.predChecksRow.domain false) (Rows.predChecksSpec.post enc Try.prog Try.f3 false true false false) :=
  lawLifted rfl Try.func3 (by kernel_rfl) (T := 4) rfl Try.underlying4 (by intro t ht; rw [Try.params3] at ht; simp only [List.mem_cons, List.not_mem_nil, or_false] at ht; subst ht; exact ⟨by kernel_rfl, of_decide_eq_true (by kernel_rfl)⟩)
    (by intro H ds hl; rw [Try.params3] at hl; match ds, hl with | [d0], _ => rfl)
    predChecks_law os started H enc
    (ChangeSpec.witness6 (enc := enc) (C := Try.checked) false ⟨#[], #[.agg #[.string ByteArray.empty, .slice none 0 0, .slice none 0 0]], []⟩ 8 (by kernel_rfl) (by kernel_rfl) (by kernel_rfl) (by kernel_rfl))

theorem predChecks_holds : Rows.PredChecksSaid :=
  OpenClaim.holds_of_wide 3 Try.f3 rfl rfl rfl rfl rfl rfl rfl ⟨rfl, rfl, rfl, rfl, rfl⟩ rfl rfl rfl rfl rfl (by kernel_rfl) Try.func3 (by kernel_rfl)
    (of_decide_eq_true (by kernel_rfl)) (by unfold Func.isWrapper; first | (rw [if_pos (by decide +kernel)]; kernel_rfl) | (rw [if_neg (by decide +kernel)]; exact ⟨rfl, rfl⟩))
    (fun os started H enc _ => predChecks_lifted os started H enc)

#print axioms predChecks_holds
end Go.Proofs.Ytglcnnnjdkjggaa
