
/-
  offshootlaw19.FoldTurns returns true for every input, and leaves its arguments as they were: the row 'FoldTurnsSaid'. No conditions.
-/
import Derived.Test.YtipjelkdbbhcpaaRow
import Derived.Test.YtipjelkdbbhcpaaFtu
set_option linter.unusedVariables false
set_option linter.unusedSimpArgs false
namespace Go.Proofs.Ytipjelkdbbhcpaa
open Go.ChangeShapes Go.WideShapes Go.ChangeAt Go.RowKit
open Go.ChangeMaps (open_string shut_string)

set_option maxRecDepth 100000 in
theorem foldTurns_law : LawWalk 7 Try.f7 := by
  intro H enc W base vs ds ps hval hA hsz
  rw [Try.params7] at hA hval hsz
  obtain ⟨v0, vs0, d0, ds0, p0, q0, rfl, rfl, rfl, h0, r0⟩ := trodAll_cons hA
  obtain ⟨v1, vs1, d1, ds1, p1, q1, rfl, rfl, rfl, h1, r1⟩ := trodAll_cons r0
  obtain ⟨rfl, rfl, rfl⟩ := trodAll_nil r1
  obtain ⟨z0, rfl, _⟩ := okWide_struct Try.underlying27 (hval 0 27 v0 rfl rfl)
  obtain ⟨fu0, hf0⟩ := h0
  obtain ⟨x0, hb0⟩ := Has.ofTrod fu0 _ _ hf0 (fun m hm => of_decide_eq_true (List.all_eq_true.1 hsz _ (DataW.weights_mem_each (j := 0) rfl rfl m hm)))
  replace hb0 : Has W (.agg z0) x0 := by simpa [Value.cells] using hb0
  obtain ⟨z1, rfl, _⟩ := okWide_struct Try.underlying27 (hval 1 27 v1 rfl rfl)
  obtain ⟨fu1, hf1⟩ := h1
  obtain ⟨x1, hb1⟩ := Has.ofTrod fu1 _ _ hf1 (fun m hm => of_decide_eq_true (List.all_eq_true.1 hsz _ (DataW.weights_mem_each (j := 1) rfl rfl m hm)))
  replace hb1 : Has W (.agg z1) x1 := by simpa [Value.cells] using hb1
  exact foldTurns_walk (.agg z0) x0 (.agg z1) x1 W hb0 hb1

set_option maxRecDepth 100000 in
theorem foldTurns_lifted (os : Os) (started : os.Started) (H : Type) (enc : TypeId × Value → H) :
    ReturnsInHanded {} Try.checked os 7 .any (Rows.foldTurnsSpec.pre6 enc Try.prog Try.f7 Rows.foldTurnsRow.domain false) (Rows.foldTurnsSpec.post enc Try.prog Try.f7 false true false false) :=
  lawLifted rfl Try.func7 (by kernel_rfl) (T := 4) rfl Try.underlying4 (by intro t ht; rw [Try.params7] at ht; simp only [List.mem_cons, List.not_mem_nil, or_false] at ht; rcases ht with rfl | rfl <;> exact ⟨by kernel_rfl, of_decide_eq_true (by kernel_rfl)⟩)
    (by intro H ds hl; rw [Try.params7] at hl; match ds, hl with | [d0, d1], _ => rfl)
    foldTurns_law os started H enc
    (ChangeSpec.witness6 (enc := enc) (C := Try.checked) false ⟨#[], #[.agg #[.int .i64 0, .bool false, .int .i64 0, .float .f64 0, .string ByteArray.empty, .slice none 0 0], .agg #[.int .i64 0, .bool false, .int .i64 0, .float .f64 0, .string ByteArray.empty, .slice none 0 0]], []⟩ 8 (by kernel_rfl) (by kernel_rfl) (by kernel_rfl) (by kernel_rfl))

theorem foldTurns_holds : Rows.FoldTurnsSaid :=
  OpenClaim.holds_of_wide 7 Try.f7 rfl rfl rfl rfl rfl rfl rfl ⟨rfl, rfl, rfl, rfl, rfl⟩ rfl rfl rfl rfl rfl (by kernel_rfl) Try.func7 (by kernel_rfl)
    (of_decide_eq_true (by kernel_rfl)) (by unfold Func.isWrapper; first | (rw [if_pos (by decide +kernel)]; kernel_rfl) | (rw [if_neg (by decide +kernel)]; exact ⟨rfl, rfl⟩))
    (fun os started H enc _ => foldTurns_lifted os started H enc)

#print axioms foldTurns_holds
end Go.Proofs.Ytipjelkdbbhcpaa
