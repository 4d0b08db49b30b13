/-
  offshootlaw23.MsgAsks returns true for every input, and leaves its argument as it was: the row 'MsgAsksSaid'. No conditions.
-/
import Derived.Test.YtijkliffgihglaaRow
import Derived.Test.YtijkliffgihglaaMsgD
import Derived.WideShapes
set_option linter.unusedVariables false
set_option linter.unusedSimpArgs false
namespace Go.Proofs.Ytijkliffgihglaa
open Go.ChangeShapes Go.WideShapes Go.ChangeAt Go.RowKit
open Go.ChangeMaps (open_string shut_string)

section
variable {H : Type} {enc : TypeId × Value → H} {W : World} {base : Nat} {spare : Nat → Bool} {held : Bool}
theorem field_int {n t o c i : Nat} {k : IntKind} {cs : List Value} {xs : List (DataW H × List MemPlace)} (ht : Try.prog.underlying t = some (.int k)) (hi : i < xs.length)
    (h : DataW.trod enc Try.prog W base spare held n t ((cs.drop o).take c) = xs[i]?) : ∃ m, (cs.drop o).take c = [.int k m] ∧ (Lit.int k m).wf = true := by
  rw [List.getElem?_eq_getElem hi] at h
  obtain ⟨m, h1, _, h2⟩ := DataW.trod_int ht h
  exact ⟨m, h1, h2⟩
theorem field_string {n t o c i : Nat} {cs : List Value} {xs : List (DataW H × List MemPlace)} (ht : Try.prog.underlying t = some .string) (hi : i < xs.length)
    (h : DataW.trod enc Try.prog W base spare held n t ((cs.drop o).take c) = xs[i]?) : ∃ s : ByteArray, (cs.drop o).take c = [.string s] ∧ s.size ≤ maxLen := by
  rw [List.getElem?_eq_getElem hi] at h
  obtain ⟨m, h1, _, h2⟩ := DataW.trod_string ht h
  exact ⟨m, h1, h2⟩
theorem i64_wf {a : Int} (h : (Lit.int .i64 a).wf = true) : -9223372036854775808 ≤ a ∧ a ≤ 9223372036854775807 := by
  simp [Lit.wf, IntKind.min, IntKind.max, IntKind.signed, IntKind.bits] at h
  exact ⟨h.1, h.2⟩
theorem u64_wf {a : Int} (h : (Lit.int .u64 a).wf = true) : 0 ≤ a ∧ a ≤ 18446744073709551615 := by
  simp [Lit.wf, IntKind.min, IntKind.max, IntKind.signed, IntKind.bits] at h
  exact ⟨h.1, h.2⟩
theorem open_ask {v : Value} {d : DataW H} {p : List MemPlace} {b0 : Nat} {r : Reach} (hv : Value.okWide Try.prog W r b0 24 v) (h : DataW.Trod enc Try.prog W base spare held 24 v d p) :
    ∃ id kind sess rules fuel room batch body, v = askV id kind sess rules fuel room batch body ∧ AskOk id kind sess rules fuel room batch ∧ body.length ≤ maxLen := by
  obtain ⟨cs, rfl, hcs⟩ := okWide_struct Try.underlying24 hv
  obtain ⟨fuel, hf⟩ := h
  obtain ⟨xs, n, rfl, hx, hl, hlen, hfs⟩ := DataW.trod_struct Try.underlying24 hf
  have hlen : xs.length = 8 := hlen
  have hc8 : Try.prog.cellsOf 24 = 8 := by kernel_rfl
  have c1 : Try.prog.cellsOf 22 = 1 := by kernel_rfl
  have c2 : Try.prog.cellsOf 3 = 1 := by kernel_rfl
  have c3 : Try.prog.cellsOf 2 = 1 := by kernel_rfl
  have c4 : Try.prog.cellsOf 9 = 1 := by kernel_rfl
  obtain ⟨x0, e0, w0⟩ := field_int Try.underlying22 (by omega) (hfs 0 _ rfl)
  obtain ⟨x1, e1, w1⟩ := field_int Try.underlying3 (by omega) (hfs 1 _ rfl)
  obtain ⟨x2, e2, w2⟩ := field_int Try.underlying2 (by omega) (hfs 2 _ rfl)
  obtain ⟨x3, e3, w3⟩ := field_int Try.underlying3 (by omega) (hfs 3 _ rfl)
  obtain ⟨x4, e4, w4⟩ := field_int Try.underlying2 (by omega) (hfs 4 _ rfl)
  obtain ⟨x5, e5, w5⟩ := field_int Try.underlying2 (by omega) (hfs 5 _ rfl)
  obtain ⟨x6, e6, w6⟩ := field_int Try.underlying3 (by omega) (hfs 6 _ rfl)
  obtain ⟨x7, e7, w7⟩ := field_string Try.underlying9 (by omega) (hfs 7 _ rfl)
  obtain ⟨cs⟩ := cs
  rw [hc8] at hcs
  simp only [Value.cells, c1, c2, c3, c4] at e0 e1 e2 e3 e4 e5 e6 e7
  match cs, hcs with
  | [y0, y1, y2, y3, y4, y5, y6, y7], _ =>
    simp [c1, c2, c3, c4] at e0 e1 e2 e3 e4 e5 e6 e7
    subst e0 e1 e2 e3 e4 e5 e6 e7
    refine ⟨x0, x1, x2, x3, x4, x5, x6, x7.data.toList, rfl, ⟨u64_wf w0, i64_wf w1, i64_wf w2, i64_wf w3, i64_wf w4, i64_wf w5, i64_wf w6⟩, ?_⟩
    rw [Array.length_toList]
    exact w7
end

theorem msgAsks_law : LawWalk 3 Try.f3 := by
  intro H enc W base vs ds ps hval hA hsz
  rw [Try.params3] at hA hval hsz
  obtain ⟨v0, vs0, d0, ds0, p0, q0, rfl, rfl, rfl, h0, r0⟩ := trodAll_cons hA
  obtain ⟨rfl, rfl, rfl⟩ := trodAll_nil r0
  obtain ⟨id, kind, sess, rules, fuel, room, batch, body, rfl, hk, hl⟩ := open_ask (hval 0 24 v0 rfl rfl) h0
  exact law_asks id kind sess rules fuel room batch body W hk hl

set_option maxRecDepth 100000 in
theorem msgAsks_lifted (os : Os) (started : os.Started) (H : Type) (enc : TypeId × Value → H) :
    ReturnsInHanded {} Try.checked os 3 .any (Rows.msgAsksSpec.pre6 enc Try.prog Try.f3 Rows.msgAsksRow.domain false) (Rows.msgAsksSpec.post enc Try.prog Try.f3 false true false false) :=
  lawLifted rfl Try.func3 (by kernel_rfl) (T := 4) rfl Try.underlying4 (by intro t ht; rw [Try.params3] at ht; simp only [List.mem_cons, List.not_mem_nil, or_false] at ht; subst ht; exact ⟨by kernel_rfl, of_decide_eq_true (by kernel_rfl)⟩)
    (by intro H ds hl; rw [Try.params3] at hl; match ds, hl with | [d0], _ => rfl)
    msgAsks_law os started H enc
    (ChangeSpec.witness6 (enc := enc) (C := Try.checked) false ⟨#[], #[.agg #[.int .u64 0, .int .i64 0, .int .i64 0, .int .i64 0, .int .i64 0, .int .i64 0, .int .i64 0, .string ByteArray.empty]], []⟩ 8 (by kernel_rfl) (by kernel_rfl) (by kernel_rfl) (by kernel_rfl))

theorem msgAsks_holds : Rows.MsgAsksSaid :=
  OpenClaim.holds_of_wide 3 Try.f3 rfl rfl rfl rfl rfl rfl rfl ⟨rfl, rfl, rfl, rfl, rfl⟩ rfl rfl rfl rfl rfl (by kernel_rfl) Try.func3 (by kernel_rfl)
    (of_decide_eq_true (by kernel_rfl)) (by unfold Func.isWrapper; first | (rw [if_pos (by decide +kernel)]; kernel_rfl) | (rw [if_neg (by decide +kernel)]; exact ⟨rfl, rfl⟩))
    (fun os started H enc _ => msgAsks_lifted os started H enc)

#print axioms msgAsks_holds
end Go.Proofs.Ytijkliffgihglaa
