
/-
  offshootlaw05.PageNone returns true for every input, and leaves its arguments as they were: the row 'PageNoneSaid'. No conditions.
-/
import Derived.Test.YtgcoepljlkahoaaRow
import Derived.Test.YtgcoepljlkahoaaPgG
set_option linter.unusedVariables false
set_option linter.unusedSimpArgs false
namespace Go.Proofs.Ytgcoepljlkahoaa
open Go.ChangeShapes Go.WideShapes Go.ChangeAt Go.RowKit
open Go.ChangeMaps (open_string shut_string)

set_option maxRecDepth 100000 in
theorem pageNone_law : LawWalk 6 Try.f6 := by
  intro H enc W base vs ds ps hval hA hsz
  rw [Try.params6] at hA hval hsz
  obtain ⟨v0, vs0, d0, ds0, p0, q0, rfl, rfl, rfl, h0, r0⟩ := trodAll_cons hA
  obtain ⟨v1, vs1, d1, ds1, p1, q1, rfl, rfl, rfl, h1, r1⟩ := trodAll_cons r0
  obtain ⟨rfl, rfl, rfl⟩ := trodAll_nil r1
  obtain ⟨a0, rfl, rfl, rfl, w0⟩ := open_int Try.underlying26 (hval 0 26 v0 rfl rfl) h0
  obtain ⟨y1, rfl, rfl, rfl, w1⟩ := open_string Try.underlying9 (hval 1 9 v1 rfl rfl) h1
  obtain ⟨a1, rfl, b1⟩ := str_list w1
  exact pageNone_walk a0 a1 W

set_option maxRecDepth 100000 in
theorem pageNone_lifted (os : Os) (started : os.Started) (H : Type) (enc : TypeId × Value → H) :
    ReturnsInHanded {} Try.checked os 6 .any (Rows.pageNoneSpec.pre6 enc Try.prog Try.f6 Rows.pageNoneRow.domain false) (Rows.pageNoneSpec.post enc Try.prog Try.f6 false true false false) :=
  lawLifted rfl Try.func6 (by kernel_rfl) (T := 4) rfl Try.underlying4 (by intro t ht; rw [Try.params6] at ht; simp only [List.mem_cons, List.not_mem_nil, or_false] at ht; rcases ht with rfl | rfl <;> exact ⟨by kernel_rfl, of_decide_eq_true (by kernel_rfl)⟩)
    (by intro H ds hl; rw [Try.params6] at hl; match ds, hl with | [d0, d1], _ => rfl)
    pageNone_law os started H enc
    (ChangeSpec.witness6 (enc := enc) (C := Try.checked) false ⟨#[], #[.int .u64 0, .string ByteArray.empty], []⟩ 8 (by kernel_rfl) (by kernel_rfl) (by kernel_rfl) (by kernel_rfl))

theorem pageNone_holds : Rows.PageNoneSaid :=
  OpenClaim.holds_of_wide 6 Try.f6 rfl rfl rfl rfl rfl rfl rfl ⟨rfl, rfl, rfl, rfl, rfl⟩ rfl rfl rfl rfl rfl (by kernel_rfl) Try.func6 (by kernel_rfl)
    (of_decide_eq_true (by kernel_rfl)) (by unfold Func.isWrapper; first | (rw [if_pos (by decide +kernel)]; kernel_rfl) | (rw [if_neg (by decide +kernel)]; exact ⟨rfl, rfl⟩))
    (fun os started H enc _ => pageNone_lifted os started H enc)

#print axioms pageNone_holds
end Go.Proofs.Ytgcoepljlkahoaa
