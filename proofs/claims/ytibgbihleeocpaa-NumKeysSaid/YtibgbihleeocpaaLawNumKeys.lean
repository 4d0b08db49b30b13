/-
  offshootlaw01.NumKeys returns true for every input, and leaves its arguments as they were: the row 'NumKeysSaid'. No conditions.
-/
import Derived.Test.YtibgbihleeocpaaRow
import Derived.Test.YtibgbihleeocpaaNumD
set_option linter.unusedVariables false
set_option linter.unusedSimpArgs false
namespace Go.Proofs.Ytibgbihleeocpaa
open Go.ChangeShapes Go.WideShapes Go.ChangeAt Go.RowKit
open Go.ChangeMaps (open_string shut_string)

theorem numKeys_law : LawWalk 7 Try.f7 := by
  intro H enc W base vs ds ps hval hA hsz
  rw [Try.params7] at hA hval hsz
  obtain ⟨v0, vs0, d0, ds0, p0, q0, rfl, rfl, rfl, h0, r0⟩ := trodAll_cons hA
  obtain ⟨v1, vs1, d1, ds1, p1, q1, rfl, rfl, rfl, h1, r1⟩ := trodAll_cons r0
  obtain ⟨rfl, rfl, rfl⟩ := trodAll_nil r1
  obtain ⟨a0, rfl, rfl, rfl, w0⟩ := open_float Try.underlying22 (hval 0 22 v0 rfl rfl) h0
  have b0 := U64.ofFloat w0
  obtain ⟨a1, rfl, rfl, rfl, w1⟩ := open_int Try.underlying24 (hval 1 24 v1 rfl rfl) h1
  obtain ⟨k1, e1, b1⟩ := U64.ofWf w1
  subst e1
  exact (numKeys_walk a0 k1 W b0 b1).mono fun e W' ⟨he, hw⟩ => ⟨he, hw ▸ Below.refl _ _⟩

set_option maxRecDepth 100000 in
theorem numKeys_lifted (os : Os) (started : os.Started) (H : Type) (enc : TypeId × Value → H) :
    ReturnsInHanded {} Try.checked os 7 .any (Rows.numKeysSpec.pre6 enc Try.prog Try.f7 Rows.numKeysRow.domain false) (Rows.numKeysSpec.post enc Try.prog Try.f7 false true false false) :=
  lawLifted rfl Try.func7 (by kernel_rfl) (T := 4) rfl Try.underlying4 (by intro t ht; rw [Try.params7] at ht; simp only [List.mem_cons, List.not_mem_nil, or_false] at ht; rcases ht with rfl | rfl <;> exact ⟨by kernel_rfl, of_decide_eq_true (by kernel_rfl)⟩)
    (by intro H ds hl; rw [Try.params7] at hl; match ds, hl with | [d0, d1], _ => rfl)
    numKeys_law os started H enc
    (ChangeSpec.witness6 (enc := enc) (C := Try.checked) false ⟨#[], #[.float .f64 0, .int .u64 0], []⟩ 8 (by kernel_rfl) (by kernel_rfl) (by kernel_rfl) (by kernel_rfl))

theorem numKeys_holds : Rows.NumKeysSaid :=
  OpenClaim.holds_of_wide 7 Try.f7 rfl rfl rfl rfl rfl rfl rfl ⟨rfl, rfl, rfl, rfl, rfl⟩ rfl rfl rfl rfl rfl (by kernel_rfl) Try.func7 (by kernel_rfl)
    (of_decide_eq_true (by kernel_rfl)) (by unfold Func.isWrapper; first | (rw [if_pos (by decide +kernel)]; kernel_rfl) | (rw [if_neg (by decide +kernel)]; exact ⟨rfl, rfl⟩))
    (fun os started H enc _ => numKeys_lifted os started H enc)

#print axioms numKeys_holds
end Go.Proofs.Ytibgbihleeocpaa
