
/-
  offshootlaw18.TravNames returns true for every input, and leaves its arguments as they were: the row 'TravNamesSaid'. No conditions.
-/
import Derived.Test.YtfccplkfdhpdgaaRow
import Derived.Test.YtfccplkfdhpdgaaTgF
set_option linter.unusedVariables false
set_option linter.unusedSimpArgs false
namespace Go.Proofs.Ytfccplkfdhpdgaa
open Go.ChangeShapes Go.WideShapes Go.ChangeAt Go.RowKit
open Go.ChangeMaps (open_string shut_string)

set_option maxRecDepth 100000 in
theorem travNames_law : LawWalk 8 Try.f8 := by
  intro H enc W base vs ds ps hval hA hsz
  rw [Try.params8] at hA hval hsz
  obtain ⟨v0, vs0, d0, ds0, p0, q0, rfl, rfl, rfl, h0, r0⟩ := trodAll_cons hA
  obtain ⟨v1, vs1, d1, ds1, p1, q1, rfl, rfl, rfl, h1, r1⟩ := trodAll_cons r0
  obtain ⟨v2, vs2, d2, ds2, p2, q2, rfl, rfl, rfl, h2, r2⟩ := trodAll_cons r1
  obtain ⟨rfl, rfl, rfl⟩ := trodAll_nil r2
  obtain ⟨z0, rfl, _⟩ := okWide_struct Try.underlying34 (hval 0 34 v0 rfl rfl)
  obtain ⟨fu0, hf0⟩ := h0
  obtain ⟨k0, b0, n0, f0, s0, B0, l0, c0, P0, pl0, pc0, T0, tl0, tc0, q0, t0, he0, hb0⟩ := HasT.ofTrod hf0 (fun m hm => of_decide_eq_true (List.all_eq_true.1 hsz _ (DataW.weights_mem_each (j := 0) rfl rfl m hm)))
  have ez0 : Value.agg z0 = travV k0 b0 n0 f0 s0 B0 l0 c0 P0 pl0 pc0 T0 tl0 tc0 q0 := by simpa [Value.cells] using he0
  rw [ez0]
  obtain ⟨y1, rfl, rfl, rfl, w1⟩ := open_string Try.underlying9 (hval 1 9 v1 rfl rfl) h1
  obtain ⟨a1, rfl, b1⟩ := str_list w1
  obtain ⟨y2, rfl, rfl, rfl, w2⟩ := open_string Try.underlying9 (hval 2 9 v2 rfl rfl) h2
  obtain ⟨a2, rfl, b2⟩ := str_list w2
  exact travNames_walk k0 b0 n0 f0 s0 B0 l0 c0 P0 pl0 pc0 T0 tl0 tc0 q0 t0 a1 a2 W hb0

set_option maxRecDepth 100000 in
theorem travNames_lifted (os : Os) (started : os.Started) (H : Type) (enc : TypeId × Value → H) :
    ReturnsInHanded {} Try.checked os 8 .any (Rows.travNamesSpec.pre6 enc Try.prog Try.f8 Rows.travNamesRow.domain false) (Rows.travNamesSpec.post enc Try.prog Try.f8 false true false false) :=
  lawLifted rfl Try.func8 (by kernel_rfl) (T := 4) rfl Try.underlying4 (by intro t ht; rw [Try.params8] at ht; simp only [List.mem_cons, List.not_mem_nil, or_false] at ht; rcases ht with rfl | rfl | rfl <;> exact ⟨by kernel_rfl, of_decide_eq_true (by kernel_rfl)⟩)
    (by intro H ds hl; rw [Try.params8] at hl; match ds, hl with | [d0, d1, d2], _ => rfl)
    travNames_law os started H enc
    (ChangeSpec.witness6 (enc := enc) (C := Try.checked) false ⟨#[], #[.agg #[.int .i64 0, .bool false, .int .i64 0, .float .f64 0, .string ByteArray.empty, .slice none 0 0, .slice none 0 0, .slice none 0 0, .int .i64 0], .string ByteArray.empty, .string ByteArray.empty], []⟩ 8 (by kernel_rfl) (by kernel_rfl) (by kernel_rfl) (by kernel_rfl))

theorem travNames_holds : Rows.TravNamesSaid :=
  OpenClaim.holds_of_wide 8 Try.f8 rfl rfl rfl rfl rfl rfl rfl ⟨rfl, rfl, rfl, rfl, rfl⟩ rfl rfl rfl rfl rfl (by kernel_rfl) Try.func8 (by kernel_rfl)
    (of_decide_eq_true (by kernel_rfl)) (by unfold Func.isWrapper; first | (rw [if_pos (by decide +kernel)]; kernel_rfl) | (rw [if_neg (by decide +kernel)]; exact ⟨rfl, rfl⟩))
    (fun os started H enc _ => travNames_lifted os started H enc)

#print axioms travNames_holds
end Go.Proofs.Ytfccplkfdhpdgaa
