
/-
  Slices of values, opened from data.
-/
import Derived.Test.YtipjelkdbbhcpaaValD
set_option linter.unusedSimpArgs false
set_option linter.unusedVariables false
namespace Go.Proofs.Ytipjelkdbbhcpaa
open Go.ChangeShapes Go.WideShapes Go.ChangeAt Go.RowKit Go.Deep

/-- what Has says of a value whose cells are known -/
theorem Has.cells6 {w : World} {y0 y1 y2 y3 y4 y5 : Value} {v : Val} (h : Has w (.agg #[y0, y1, y2, y3, y4, y5]) v) : ∃ k b n f s B len c, y0 = .int .i64 k ∧ y1 = .bool b ∧ y2 = .int .i64 n ∧ y3 = .float .f64 f ∧ y4 = .string (st s) ∧ y5 = .slice B len c := by
  obtain ⟨A, cap, he, _⟩ := h.open
  simp at he
  obtain ⟨rfl, rfl, rfl, rfl, rfl, rfl⟩ := he
  exact ⟨_, _, _, _, _, _, _, _, rfl, rfl, rfl, rfl, rfl, rfl⟩
section
variable {H : Type} {enc : TypeId × Value → H} {W : World}
/-- the element of a slice, opened -/
theorem slice_each {t e sz n : Nat} {c : Value} {x : DataW H × List MemPlace} (ht : Try.prog.underlying t = some (.slice e)) (hc : Try.prog.cellsOf e = sz) (h : DataW.trod enc Try.prog W 0 (fun _ => true) true n t [c] = some x) (hw : ∀ m ∈ x.1.weights Try.prog t, m ≤ reachBytes) :
    (c = .slice none 0 0) ∨ ∃ (a : Addr) (len cap n' : Nat), n' < n ∧ c = .slice (some a) len cap ∧ len ≤ cap ∧ cap ≤ maxLen ∧ ∀ i, i < len → ∃ cs' y, cs'.length = sz ∧ DataW.trod enc Try.prog W 0 (fun _ => true) true n' e cs' = some y ∧ (∀ m ∈ y.1.weights Try.prog e, m ≤ reachBytes) ∧ ∀ j u, cs'[j]? = some u → W.cell? (a.add (i * sz + j)) = some u := by
  rcases DataW.trod_slice ht h with ⟨h5, _⟩ | ⟨a, len, cap, elems, rest, n', hn', h5, hx5, _, hlc, hcm, hel, hes, _, _⟩
  · simp at h5
    exact .inl h5
  · simp at h5
    refine .inr ⟨a, len, cap, n', by omega, h5, hlc, hcm, fun i hi => ?_⟩
    rw [hx5] at hw
    simp only [DataW.weights, ht] at hw
    have h1 := hes i hi
    rw [List.getElem?_eq_getElem (by omega)] at h1
    obtain ⟨cs', h2, h3⟩ := Option.bind_eq_some_iff.1 h1
    rw [hc] at h2
    obtain ⟨_, hcl, hat⟩ := World.cells?_some h2
    refine ⟨cs', _, hcl, h3, fun m hm => hw m (List.mem_cons_of_mem _ (List.mem_append_left _ (weights_all (List.mem_map_of_mem (List.getElem_mem _)) hm))), fun j u hu => ?_⟩
    have hj : j < sz := by rw [← hcl]; exact (List.getElem?_eq_some_iff.1 hu).1
    rw [← Go.Deep.add_add, hat j hj, hu]
theorem add_succ (a : Addr) (j : Nat) : a.add (j + 1) = ⟨a.block, a.off + (j + 1), none⟩ := by simp [Addr.add]
theorem Parts.ofTrod {n : Nat} {c : Value} {x : DataW H × List MemPlace} (h : DataW.trod enc Try.prog W 0 (fun _ => true) true n 22 [c] = some x) (hw : ∀ m ∈ x.1.weights Try.prog 22, m ≤ reachBytes) :
    ∃ A cap l, c = .slice A (List.length l) cap ∧ Parts W A l ∧ l.length ≤ cap ∧ cap ≤ maxLen := by
  rcases slice_each Try.underlying22 (sz := 6) (by kernel_rfl) h hw with rfl | ⟨a, len, cap, n', _, rfl, hlc, hcm, hx⟩
  · exact ⟨none, 0, [], rfl, fun i x hx => by simp at hx, Nat.le_refl _, Nat.zero_le _⟩
  · obtain ⟨V, hV⟩ := choose_lt (α := Val) (n := len) (p := fun i v => ∃ k b n f s B ln c, Has W (valV k b n f s B ln c) v ∧ ValAt W (a.add (i * 6)) k b n f s B ln c) (fun i hi => by
      obtain ⟨cs', y, hl, ht, hwt, hat⟩ := hx i hi
      obtain ⟨v, hv⟩ := Has.ofTrod n' cs' y ht hwt
      match cs', hl with
      | [y0, y1, y2, y3, y4, y5], _ =>
        obtain ⟨k, b, n, f, s, B, ln, c, rfl, rfl, rfl, rfl, rfl, rfl⟩ := hv.cells6
        have e0 := hat 0 _ rfl
        have e1 := hat 1 _ rfl
        have e2 := hat 2 _ rfl
        have e3 := hat 3 _ rfl
        have e4 := hat 4 _ rfl
        have e5 := hat 5 _ rfl
        rw [← Go.Deep.add_add, add_succ] at e1 e2 e3 e4 e5
        exact ⟨v, k, b, n, f, s, B, ln, c, hv, ⟨cell_lt' e0, e0, e1, e2, e3, e4, e5⟩⟩)
    refine ⟨some a, cap, (List.range len).map V, by simp, fun i x hx => ?_, by simpa using hlc, hcm⟩
    have hi : i < len := by have := (List.getElem?_eq_some_iff.1 hx).1; simpa using this
    simp [hi] at hx
    subst hx
    obtain ⟨k, b, n, f, s, B, ln, c, h1, h2⟩ := hV i hi
    exact ⟨a, k, b, n, f, s, B, ln, c, rfl, h1, h2⟩
end
end Go.Proofs.Ytipjelkdbbhcpaa
