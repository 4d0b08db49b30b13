
/-
  offshootlaw07.KeyNumbers returns true for every input, and leaves its arguments as they were: the row 'KeyNumbersSaid'. No conditions.
-/
import Derived.Test.YteldgdlpfailgaaDoorRowL
import Derived.Test.YteldgdlpfailgaaDoorKeyB
set_option linter.unusedVariables false
set_option linter.unusedSimpArgs false
namespace Go.Proofs.YteldgdlpfailgaaDoor
open Go.ChangeShapes Go.WideShapes Go.ChangeAt Go.RowKit
open Go.ChangeMaps (open_string shut_string)

set_option maxRecDepth 100000 in
theorem keyNumbers_law : LawWalkL 7 Tryd.f7 := by
  intro H enc W base vs ds ps hsh hval hA hsz
  rw [Tryd.params7] at hA hval hsz
  obtain ⟨v0, vs0, d0, ds0, p0, q0, rfl, rfl, rfl, h0, r0⟩ := trodAll_cons hA
  obtain ⟨v1, vs1, d1, ds1, p1, q1, rfl, rfl, rfl, h1, r1⟩ := trodAll_cons r0
  obtain ⟨v2, vs2, d2, ds2, p2, q2, rfl, rfl, rfl, h2, r2⟩ := trodAll_cons r1
  obtain ⟨rfl, rfl, rfl⟩ := trodAll_nil r2
  obtain ⟨a0, rfl, rfl, rfl, w0⟩ := open_int Tryd.underlying2 (hval 0 2 v0 rfl rfl) h0
  have b0 := I64.ofWf w0
  obtain ⟨a1, rfl, rfl, rfl, w1⟩ := open_int Tryd.underlying2 (hval 1 2 v1 rfl rfl) h1
  have b1 := I64.ofWf w1
  obtain ⟨a2, rfl, rfl, rfl, w2⟩ := open_float Tryd.underlying34 (hval 2 34 v2 rfl rfl) h2
  have b2 := U64.ofFloat w2
  exact keyNumbers_walk a0 a1 a2 W b0 b1 b2

set_option maxRecDepth 100000 in
theorem keyNumbers_lifted (os : Os) (started : os.Started) (H : Type) (enc : TypeId × Value → H) :
    ReturnsInHanded {} Tryd.checked os 7 .any (fun w args => (Rows.keyNumbersSpec.pre enc Tryd.prog Tryd.f7 [] false w args ∧ laidMetH Tryd.prog laidAll w) ∧ sizedMet enc Tryd.prog Tryd.f7 (OpenSpec.ofChange Rows.keyNumbersSpec) false w args) (Rows.keyNumbersSpec.post enc Tryd.prog Tryd.f7 false true false false) :=
  lawLiftedL rfl Tryd.func7 (by kernel_rfl) (T := 4) rfl Tryd.underlying4 (by intro t ht; rw [Tryd.params7] at ht; simp only [List.mem_cons, List.not_mem_nil, or_false] at ht; rcases ht with rfl | rfl | rfl <;> exact ⟨by kernel_rfl, of_decide_eq_true (by kernel_rfl)⟩)
    (by intro H ds hl; rw [Tryd.params7] at hl; match ds, hl with | [d0, d1, d2], _ => rfl)
    keyNumbers_law os started H enc
    (ChangeSpec.witness_shaped (enc := enc) (C := Tryd.checked) (os := os) (X := fun w _ => laidMetH Tryd.prog laidAll w) false (doorWorld os) #[.int .i64 0, .int .i64 0, .float .f64 0] 8 rfl (World.shaped_of_RefB (by kernel_rfl) (by kernel_rfl)) (by kernel_rfl) (by kernel_rfl) (by kernel_rfl) (door_met os _))

theorem keyNumbers_row : Rows.KeyNumbersSaid :=
  OpenClaim.holds_of_wide 7 Tryd.f7 rfl rfl rfl rfl rfl rfl rfl ⟨rfl, rfl, rfl, rfl, rfl⟩ rfl rfl rfl rfl rfl (by kernel_rfl) Tryd.func7 (by kernel_rfl)
    (of_decide_eq_true (by kernel_rfl)) (by unfold Func.isWrapper; first | (rw [if_pos (by decide +kernel)]; kernel_rfl) | (rw [if_neg (by decide +kernel)]; exact ⟨rfl, rfl⟩))
    (fun os started H enc _ => keyNumbers_lifted os started H enc)

theorem keyNumbers_holds : Rows.KeyNumbersCardSaid :=
  Claim7.holds_tied_plain_at .later [] [.data, .pinned] true (true, "6b59ece516515498f677fb2637ff5e3be890bbf0e8de0903e98e288ee464a404") false
    keyNumbers_row (fun _ h => by cases h) (by kernel_rfl) (fun _ h => by cases h) keyNumbers_row_tie rfl ⟨rfl, rfl⟩ (by kernel_rfl) rfl
    (fun f fn hf hfn => by
      obtain rfl : f = 7 := Option.some.inj ((show Tryd.prog.funcNamed "offshoot/offshootlaw07.KeyNumbers" = some 7 by kernel_rfl).symm.trans hf) |>.symm
      obtain rfl : fn = Tryd.f7 := (Option.some.inj (Tryd.func7.symm.trans hfn)).symm
      exact ⟨by kernel_rfl, fun j t ht => by
        rw [Tryd.params7] at ht
        have hm : t ∈ [2, 2, 34] := by simpa using Array.mem_of_getElem? ht
        have hall : ([2, 2, 34].all fun u => !Tryd.prog.wantsStandIn u) = true := by kernel_rfl
        exact (show Tryd.prog.wantsStandIn t = false by simpa using List.all_eq_true.1 hall t hm)⟩)
    (by kernel_rfl)
#print axioms keyNumbers_holds
end Go.Proofs.YteldgdlpfailgaaDoor
