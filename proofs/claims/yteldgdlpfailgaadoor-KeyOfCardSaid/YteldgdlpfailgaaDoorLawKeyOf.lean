
/-
  offshootlaw07.KeyOf returns true for every input, and leaves its arguments as they were: the row 'KeyOfSaid'. No conditions.
-/
import Derived.Test.YteldgdlpfailgaaDoorRowL
import Derived.Test.YteldgdlpfailgaaDoorKeyG
set_option linter.unusedVariables false
set_option linter.unusedSimpArgs false
namespace Go.Proofs.YteldgdlpfailgaaDoor
open Go.ChangeShapes Go.WideShapes Go.ChangeAt Go.RowKit
open Go.ChangeMaps (open_string shut_string)

set_option maxRecDepth 100000 in
theorem keyOf_law : LawWalkL 5 Tryd.f5 := by
  intro H enc W base vs ds ps hsh hval hA hsz
  rw [Tryd.params5] at hA hval hsz
  obtain ⟨v0, vs0, d0, ds0, p0, q0, rfl, rfl, rfl, h0, r0⟩ := trodAll_cons hA
  obtain ⟨rfl, rfl, rfl⟩ := trodAll_nil r0
  obtain ⟨z0, rfl, _⟩ := okWide_struct Tryd.underlying37 (hval 0 37 v0 rfl rfl)
  obtain ⟨fu0, hf0⟩ := h0
  obtain ⟨x0, hb0⟩ := Has.ofTrod fu0 _ _ hf0 (fun m hm => of_decide_eq_true (List.all_eq_true.1 hsz _ (DataW.weights_mem_each (j := 0) rfl rfl m hm)))
  replace hb0 : Has W (.agg z0) x0 := by simpa [Value.cells] using hb0
  exact keyOf_walk (.agg z0) x0 W hsh hb0

set_option maxRecDepth 100000 in
theorem keyOf_lifted (os : Os) (started : os.Started) (H : Type) (enc : TypeId × Value → H) :
    ReturnsInHanded {} Tryd.checked os 5 .any (fun w args => (Rows.keyOfSpec.pre enc Tryd.prog Tryd.f5 [] false w args ∧ laidMetH Tryd.prog laidAll w) ∧ sizedMet enc Tryd.prog Tryd.f5 (OpenSpec.ofChange Rows.keyOfSpec) false w args) (Rows.keyOfSpec.post enc Tryd.prog Tryd.f5 false true false false) :=
  lawLiftedL rfl Tryd.func5 (by kernel_rfl) (T := 4) rfl Tryd.underlying4 (by intro t ht; rw [Tryd.params5] at ht; simp only [List.mem_cons, List.not_mem_nil, or_false] at ht; subst ht; exact ⟨by kernel_rfl, of_decide_eq_true (by kernel_rfl)⟩)
    (by intro H ds hl; rw [Tryd.params5] at hl; match ds, hl with | [d0], _ => rfl)
    keyOf_law os started H enc
    (ChangeSpec.witness_shaped (enc := enc) (C := Tryd.checked) (os := os) (X := fun w _ => laidMetH Tryd.prog laidAll w) false (doorWorld os) #[.agg #[.int .i64 0, .bool false, .int .i64 0, .float .f64 0, .string ByteArray.empty, .slice none 0 0]] 8 rfl (World.shaped_of_RefB (by kernel_rfl) (by kernel_rfl)) (by kernel_rfl) (by kernel_rfl) (by kernel_rfl) (door_met os _))

theorem keyOf_row : Rows.KeyOfSaid :=
  OpenClaim.holds_of_wide 5 Tryd.f5 rfl rfl rfl rfl rfl rfl rfl ⟨rfl, rfl, rfl, rfl, rfl⟩ rfl rfl rfl rfl rfl (by kernel_rfl) Tryd.func5 (by kernel_rfl)
    (of_decide_eq_true (by kernel_rfl)) (by unfold Func.isWrapper; first | (rw [if_pos (by decide +kernel)]; kernel_rfl) | (rw [if_neg (by decide +kernel)]; exact ⟨rfl, rfl⟩))
    (fun os started H enc _ => keyOf_lifted os started H enc)

theorem keyOf_holds : Rows.KeyOfCardSaid :=
  Claim7.holds_tied_plain_at .later [] [.data, .pinned] true (true, "6b59ece516515498f677fb2637ff5e3be890bbf0e8de0903e98e288ee464a404") false
    keyOf_row (fun _ h => by cases h) (by kernel_rfl) (fun _ h => by cases h) keyOf_row_tie rfl ⟨rfl, rfl⟩ (by kernel_rfl) rfl
    (fun f fn hf hfn => by
      obtain rfl : f = 5 := Option.some.inj ((show Tryd.prog.funcNamed "offshoot/offshootlaw07.KeyOf" = some 5 by kernel_rfl).symm.trans hf) |>.symm
      obtain rfl : fn = Tryd.f5 := (Option.some.inj (Tryd.func5.symm.trans hfn)).symm
      exact ⟨by kernel_rfl, fun j t ht => by
        rw [Tryd.params5] at ht
        have hm : t ∈ [37] := by simpa using Array.mem_of_getElem? ht
        have hall : ([37].all fun u => !Tryd.prog.wantsStandIn u) = true := by kernel_rfl
        exact (show Tryd.prog.wantsStandIn t = false by simpa using List.all_eq_true.1 hall t hm)⟩)
    (by kernel_rfl)
#print axioms keyOf_holds
end Go.Proofs.YteldgdlpfailgaaDoor
