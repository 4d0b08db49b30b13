
/-
  offshootlaw16.PredTurns returns true for every input of bulk at most 1048576, and leaves its arguments as they were: the row 'PredTurnsUptoSaid'. No other conditions.
-/
import Derived.Test.YtglcnnnjdkjggaaRowU
import Derived.Test.YtglcnnnjdkjggaaPrj
import Derived.Shelf.Vars
set_option linter.unusedVariables false
set_option linter.unusedSimpArgs false
namespace Go.Proofs.Ytglcnnnjdkjggaa
open Go.ChangeShapes Go.WideShapes Go.ChangeAt Go.RowKit
open Go.ChangeMaps (open_string shut_string)

section
variable {H : Type} {enc : TypeId × Value → H} {W : World}
theorem bulk_mem {H : Type} {d : DataW H} {l : List (DataW H)} (h : d ∈ l) : Rows.uptoBulk d ≤ Rows.uptoBulkAll l := by
  induction l with
  | nil => cases h
  | cons x r ih =>
    simp only [Rows.uptoBulkAll]
    cases List.mem_cons.1 h with
    | inl e => subst e; omega
    | inr e => have := ih e; omega
set_option maxRecDepth 8000 in
/-- a value's letters count -/
theorem val_bulk {fuel : Nat} {cs : List Value} {x : DataW H × List MemPlace} (h : DataW.trod enc Try.prog W 0 (fun _ => true) true fuel 31 cs = some x) {v : Val} (hv : Has W (.agg cs.toArray) v) : v.s.length + 2 ≤ Rows.uptoBulk x.1 := by
  have hc6 : Try.prog.cellsOf 31 = 6 := by kernel_rfl
  have c1 : Try.prog.cellsOf 3 = 1 := by kernel_rfl
  have c2 : Try.prog.cellsOf 4 = 1 := by kernel_rfl
  have c3 : Try.prog.cellsOf 2 = 1 := by kernel_rfl
  have c4 : Try.prog.cellsOf 29 = 1 := by kernel_rfl
  have c5 : Try.prog.cellsOf 9 = 1 := by kernel_rfl
  have c7 : Try.prog.cellsOf 22 = 1 := by kernel_rfl
  obtain ⟨xs, n, hn, hxs, hl, hlen, hfs⟩ := DataW.trod_struct Try.underlying31 h
  have hlen : xs.length = 6 := hlen
  rw [hc6] at hl
  match cs, hl with
  | [y0, y1, y2, y3, y4, y5], _ =>
    match xs, hlen with
    | [x0, x1, x2, x3, x4, x5], _ =>
      have f4 := hfs 4 _ rfl
      simp [c1, c2, c3, c4, c5, c7] at f4
      obtain ⟨s, rfl, hs4⟩ := trod_st Try.underlying9 f4
      obtain ⟨B, cap, he, _⟩ := hv.open
      have hs : v.s = s := by
        injection he with he
        have he := congrArg (fun a : Array Value => a[4]?) he
        simp [st] at he
        exact he.symm
      rw [hxs, hs]
      have h1 := bulk_mem (d := x4.1) (l := [x0, x1, x2, x3, x4, x5].map (·.1)) (by simp)
      rw [hs4] at h1
      simp only [Rows.uptoBulk] at h1 ⊢
      omega
end

set_option maxRecDepth 100000 in
theorem predTurns_law : LawWalkU 5 Try.f5 := by
  intro H enc W base vs ds ps hsh hbk hval hA hsz
  rw [Try.params5] at hA hval hsz
  obtain ⟨v0, vs0, d0, ds0, p0, q0, rfl, rfl, rfl, h0, r0⟩ := trodAll_cons hA
  obtain ⟨v1, vs1, d1, ds1, p1, q1, rfl, rfl, rfl, h1, r1⟩ := trodAll_cons r0
  obtain ⟨v2, vs2, d2, ds2, p2, q2, rfl, rfl, rfl, h2, r2⟩ := trodAll_cons r1
  obtain ⟨rfl, rfl, rfl⟩ := trodAll_nil r2
  obtain ⟨z0, rfl, _⟩ := okWide_struct Try.underlying25 (hval 0 25 v0 rfl rfl)
  obtain ⟨z1, rfl, _⟩ := okWide_struct Try.underlying25 (hval 1 25 v1 rfl rfl)
  obtain ⟨z2, rfl, _⟩ := okWide_struct Try.underlying31 (hval 2 31 v2 rfl rfl)
  obtain ⟨fu0, hf0⟩ := h0
  obtain ⟨x0, hb0⟩ := HasQ.ofTrod fu0 _ _ hf0 (fun m hm => of_decide_eq_true (List.all_eq_true.1 hsz _ (DataW.weights_mem_each (j := 0) rfl rfl m hm)))
  replace hb0 : HasQ W (.agg z0) x0 := by simpa [Value.cells] using hb0
  obtain ⟨fu1, hf1⟩ := h1
  obtain ⟨x1, hb1⟩ := HasQ.ofTrod fu1 _ _ hf1 (fun m hm => of_decide_eq_true (List.all_eq_true.1 hsz _ (DataW.weights_mem_each (j := 1) rfl rfl m hm)))
  replace hb1 : HasQ W (.agg z1) x1 := by simpa [Value.cells] using hb1
  obtain ⟨fu2, hf2⟩ := h2
  obtain ⟨x2, hb2⟩ := Has.ofTrod fu2 _ _ hf2 (fun m hm => of_decide_eq_true (List.all_eq_true.1 hsz _ (DataW.weights_mem_each (j := 2) rfl rfl m hm)))
  have hs2 := val_bulk hf2 hb2
  dsimp only at hs2
  replace hb2 : Has W (.agg z2) x2 := by simpa [Value.cells] using hb2
  have hd2 := bulk_mem (d := d2) (l := [d0, d1, d2]) (by simp)
  have hM : ∃ m, W.cell? ⟨maxG, 0, none⟩ = some (.int .i64 m) := Go.Proofs.cell_of_shapedOpen_int (zero := #[.int .i64 0]) (t := 3) hsh (of_decide_eq_true (by kernel_rfl)) (by kernel_rfl) rfl (by kernel_rfl) (by kernel_rfl) Try.underlying3
  obtain ⟨m, hm⟩ := hM
  exact predTurns_walk (.agg z0) (.agg z1) (.agg z2) x0 x1 x2 W m hb0 hb1 hb2 (by omega) hm

set_option maxRecDepth 100000 in
theorem predTurns_lifted (os : Os) (started : os.Started) (H : Type) (enc : TypeId × Value → H) (I : Stop.Interp) :
    ReturnsInHanded {} Try.checked os 5 .any ((Rows.OpenSpec.upto Rows.predTurnsSpec).pre6 enc Try.prog Try.f5 Rows.predTurnsUptoRow.domain false) (((Rows.OpenSpec.upto Rows.predTurnsSpec).at I).post enc Try.prog Try.f5 false true false false) :=
  lawLiftedU rfl Try.func5 (by kernel_rfl) (T := 4) rfl Try.underlying4 (by intro t ht; rw [Try.params5] at ht; simp only [List.mem_cons, List.not_mem_nil, or_false] at ht; rcases ht with rfl | rfl | rfl <;> exact ⟨by kernel_rfl, of_decide_eq_true (by kernel_rfl)⟩)
    (by intro H ds hl; rw [Try.params5] at hl; match ds, hl with | [d0, d1, d2], _ => rfl)
    predTurns_law os started H enc
    (OpenSpec.witness (enc := enc) (C := Try.checked) (s := Rows.OpenSpec.upto Rows.predTurnsSpec) (k := Rows.uptoSmall) rfl false ⟨#[], #[.agg #[.string ByteArray.empty, .slice none 0 0, .slice none 0 0], .agg #[.string ByteArray.empty, .slice none 0 0, .slice none 0 0], .agg #[.int .i64 0, .bool false, .int .i64 0, .float .f64 0, .string ByteArray.empty, .slice none 0 0]], []⟩ 8 (by kernel_rfl) (by kernel_rfl) (by kernel_rfl)
      (x := ([.agg [.lit (.string []), .nil, .nil], .agg [.lit (.string []), .nil, .nil], .agg [.lit (.int .i64 0), .lit (.bool false), .lit (.int .i64 0), .lit (.float .f64 0), .lit (.string []), .nil]], [], [])) (by kernel_rfl) rfl (by kernel_rfl))

theorem predTurns_holds : Rows.PredTurnsUptoSaid :=
  OpenClaim.holds_of_cond 5 Try.f5 rfl rfl rfl rfl rfl rfl rfl ⟨rfl, rfl, rfl, rfl, rfl⟩ rfl rfl rfl rfl rfl (by kernel_rfl) Try.func5 (by kernel_rfl)
    (of_decide_eq_true (by kernel_rfl)) (by unfold Func.isWrapper; first | (rw [if_pos (by decide +kernel)]; kernel_rfl) | (rw [if_neg (by decide +kernel)]; exact ⟨rfl, rfl⟩))
    (fun os started H enc _ F => predTurns_lifted os started H enc F)

#print axioms predTurns_holds
end Go.Proofs.Ytglcnnnjdkjggaa
