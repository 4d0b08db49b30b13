
/-
  offshootlaw18.TravGoes returns true for every input, and leaves its arguments as they were: the row 'TravGoesSaid'. No conditions.
-/
import Derived.Test.YtfccplkfdhpdgaaRow
import Derived.Test.YtfccplkfdhpdgaaTrvY
set_option linter.unusedVariables false
set_option linter.unusedSimpArgs false
namespace Go.Proofs.Ytfccplkfdhpdgaa
open Go.ChangeShapes Go.WideShapes Go.ChangeAt Go.RowKit
open Go.ChangeMaps (open_string shut_string)

theorem travGoes_law : LawWalk 5 Try.f5 := by
  intro H enc W base vs ds ps hval hA hsz
  rw [Try.params5] at hA hval hsz
  obtain ⟨v0, vs0, d0, ds0, p0, q0, rfl, rfl, rfl, h0, r0⟩ := trodAll_cons hA
  obtain ⟨v1, vs1, d1, ds1, p1, q1, rfl, rfl, rfl, h1, r1⟩ := trodAll_cons r0
  obtain ⟨v2, vs2, d2, ds2, p2, q2, rfl, rfl, rfl, h2, r2⟩ := trodAll_cons r1
  obtain ⟨rfl, rfl, rfl⟩ := trodAll_nil r2
  obtain ⟨z0, rfl, _⟩ := okWide_struct Try.underlying34 (hval 0 34 v0 rfl rfl)
  obtain ⟨fu0, hf0⟩ := h0
  obtain ⟨k0, b0, n0, f0, s0, B0, l0, c0, P0, pl0, pc0, T0, tl0, tc0, q0, t0, he0, hb0⟩ := HasT.ofTrod hf0 (fun m hm => of_decide_eq_true (List.all_eq_true.1 hsz _ (DataW.weights_mem_each (j := 0) rfl rfl m hm)))
  have ez0 : Value.agg z0 = travV k0 b0 n0 f0 s0 B0 l0 c0 P0 pl0 pc0 T0 tl0 tc0 q0 := by simpa [Value.cells] using he0
  rw [ez0]
  obtain ⟨z1, rfl, _⟩ := okWide_struct Try.underlying31 (hval 1 31 v1 rfl rfl)
  obtain ⟨fu1, hf1⟩ := h1
  obtain ⟨x1, hb1⟩ := Has.ofTrod fu1 _ _ hf1 (fun m hm => of_decide_eq_true (List.all_eq_true.1 hsz _ (DataW.weights_mem_each (j := 1) rfl rfl m hm)))
  replace hb1 : Has W (.agg z1) x1 := by simpa [Value.cells] using hb1
  obtain ⟨a2, rfl, rfl, rfl⟩ := open_bool Try.underlying4 (hval 2 4 v2 rfl rfl) h2
  exact travGoes_any k0 b0 n0 f0 s0 B0 l0 c0 P0 pl0 pc0 T0 tl0 tc0 q0 t0 (.agg z1) x1 a2 W hb0 hb1

set_option maxRecDepth 100000 in
theorem travGoes_lifted (os : Os) (started : os.Started) (H : Type) (enc : TypeId × Value → H) :
    ReturnsInHanded {} Try.checked os 5 .any (Rows.travGoesSpec.pre6 enc Try.prog Try.f5 Rows.travGoesRow.domain false) (Rows.travGoesSpec.post enc Try.prog Try.f5 false true false false) :=
  lawLifted rfl Try.func5 (by kernel_rfl) (T := 4) rfl Try.underlying4 (by intro t ht; rw [Try.params5] at ht; simp only [List.mem_cons, List.not_mem_nil, or_false] at ht; rcases ht with rfl | rfl | rfl <;> exact ⟨by kernel_rfl, of_decide_eq_true (by kernel_rfl)⟩)
    (by intro H ds hl; rw [Try.params5] at hl; match ds, hl with | [d0, d1, d2], _ => rfl)
    travGoes_law os started H enc
    (ChangeSpec.witness6 (enc := enc) (C := Try.checked) false ⟨#[], #[.agg #[.int .i64 0, .bool false, .int .i64 0, .float .f64 0, .string ByteArray.empty, .slice none 0 0, .slice none 0 0, .slice none 0 0, .int .i64 0], .agg #[.int .i64 0, .bool false, .int .i64 0, .float .f64 0, .string ByteArray.empty, .slice none 0 0], .bool false], []⟩ 8 (by kernel_rfl) (by kernel_rfl) (by kernel_rfl) (by kernel_rfl))

theorem travGoes_holds : Rows.TravGoesSaid :=
  OpenClaim.holds_of_wide 5 Try.f5 rfl rfl rfl rfl rfl rfl rfl ⟨rfl, rfl, rfl, rfl, rfl⟩ rfl rfl rfl rfl rfl (by kernel_rfl) Try.func5 (by kernel_rfl)
    (of_decide_eq_true (by kernel_rfl)) (by unfold Func.isWrapper; first | (rw [if_pos (by decide +kernel)]; kernel_rfl) | (rw [if_neg (by decide +kernel)]; exact ⟨rfl, rfl⟩))
    (fun os started H enc _ => travGoes_lifted os started H enc)

#print axioms travGoes_holds
end Go.Proofs.Ytfccplkfdhpdgaa
