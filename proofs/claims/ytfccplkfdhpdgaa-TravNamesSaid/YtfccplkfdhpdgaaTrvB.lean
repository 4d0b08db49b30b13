
/-
  Traversers and slices of values, opened from data.
-/
import Derived.Test.YtfccplkfdhpdgaaTrvA
set_option linter.unusedSimpArgs false
set_option linter.unusedVariables false
namespace Go.Proofs.Ytfccplkfdhpdgaa
open Go.ChangeShapes Go.WideShapes Go.ChangeAt Go.RowKit Go.Deep

/-- what Has says of a value whose cells are known -/
theorem Has.cells6 {w : World} {y0 y1 y2 y3 y4 y5 : Value} {v : Val} (h : Has w (.agg #[y0, y1, y2, y3, y4, y5]) v) : ∃ k b n f s B len c, y0 = .int .i64 k ∧ y1 = .bool b ∧ y2 = .int .i64 n ∧ y3 = .float .f64 f ∧ y4 = .string (st s) ∧ y5 = .slice B len c := by
  obtain ⟨A, cap, he, _⟩ := h.open
  simp at he
  obtain ⟨rfl, rfl, rfl, rfl, rfl, rfl⟩ := he
  exact ⟨_, _, _, _, _, _, _, _, rfl, rfl, rfl, rfl, rfl, rfl⟩
section
variable {H : Type} {enc : TypeId × Value → H} {W : World}
/-- the element of a slice, opened -/
theorem slice_each {t e sz n : Nat} {c : Value} {x : DataW H × List MemPlace} (ht : Try.prog.underlying t = some (.slice e)) (hc : Try.prog.cellsOf e = sz) (h : DataW.trod enc Try.prog W 0 (fun _ => true) true n t [c] = some x) (hw : ∀ m ∈ x.1.weights Try.prog t, m ≤ reachBytes) :
    (c = .slice none 0 0) ∨ ∃ (a : Addr) (len cap n' : Nat), n' < n ∧ c = .slice (some a) len cap ∧ len ≤ cap ∧ cap ≤ maxLen ∧ ∀ i, i < len → ∃ cs' y, cs'.length = sz ∧ DataW.trod enc Try.prog W 0 (fun _ => true) true n' e cs' = some y ∧ (∀ m ∈ y.1.weights Try.prog e, m ≤ reachBytes) ∧ ∀ j u, cs'[j]? = some u → W.cell? (a.add (i * sz + j)) = some u := by
  rcases DataW.trod_slice ht h with ⟨h5, _⟩ | ⟨a, len, cap, elems, rest, n', hn', h5, hx5, _, hlc, hcm, hel, hes, _, _⟩
  · simp at h5
    exact .inl h5
  · simp at h5
    refine .inr ⟨a, len, cap, n', by omega, h5, hlc, hcm, fun i hi => ?_⟩
    rw [hx5] at hw
    simp only [DataW.weights, ht] at hw
    have h1 := hes i hi
    rw [List.getElem?_eq_getElem (by omega)] at h1
    obtain ⟨cs', h2, h3⟩ := Option.bind_eq_some_iff.1 h1
    rw [hc] at h2
    obtain ⟨_, hcl, hat⟩ := World.cells?_some h2
    refine ⟨cs', _, hcl, h3, fun m hm => hw m (List.mem_cons_of_mem _ (List.mem_append_left _ (weights_all (List.mem_map_of_mem (List.getElem_mem _)) hm))), fun j u hu => ?_⟩
    have hj : j < sz := by rw [← hcl]; exact (List.getElem?_eq_some_iff.1 hu).1
    rw [← Go.Deep.add_add, hat j hj, hu]
theorem add_succ (a : Addr) (j : Nat) : a.add (j + 1) = ⟨a.block, a.off + (j + 1), none⟩ := by simp [Addr.add]
theorem Parts.ofTrod {n : Nat} {c : Value} {x : DataW H × List MemPlace} (h : DataW.trod enc Try.prog W 0 (fun _ => true) true n 29 [c] = some x) (hw : ∀ m ∈ x.1.weights Try.prog 29, m ≤ reachBytes) :
    ∃ A cap l, c = .slice A (List.length l) cap ∧ Parts W A l ∧ l.length ≤ cap ∧ cap ≤ maxLen := by
  rcases slice_each Try.underlying29 (sz := 6) (by kernel_rfl) h hw with rfl | ⟨a, len, cap, n', _, rfl, hlc, hcm, hx⟩
  · exact ⟨none, 0, [], rfl, fun i x hx => by simp at hx, Nat.le_refl _, Nat.zero_le _⟩
  · obtain ⟨V, hV⟩ := choose_lt (α := Val) (n := len) (p := fun i v => ∃ k b n f s B ln c, Has W (valV k b n f s B ln c) v ∧ ValAt W (a.add (i * 6)) k b n f s B ln c) (fun i hi => by
      obtain ⟨cs', y, hl, ht, hwt, hat⟩ := hx i hi
      obtain ⟨v, hv⟩ := Has.ofTrod n' cs' y ht hwt
      match cs', hl with
      | [y0, y1, y2, y3, y4, y5], _ =>
        obtain ⟨k, b, n, f, s, B, ln, c, rfl, rfl, rfl, rfl, rfl, rfl⟩ := hv.cells6
        have e0 := hat 0 _ rfl
        have e1 := hat 1 _ rfl
        have e2 := hat 2 _ rfl
        have e3 := hat 3 _ rfl
        have e4 := hat 4 _ rfl
        have e5 := hat 5 _ rfl
        rw [← Go.Deep.add_add, add_succ] at e1 e2 e3 e4 e5
        exact ⟨v, k, b, n, f, s, B, ln, c, hv, ⟨cell_lt' e0, e0, e1, e2, e3, e4, e5⟩⟩)
    refine ⟨some a, cap, (List.range len).map V, by simp, fun i x hx => ?_, by simpa using hlc, hcm⟩
    have hi : i < len := by have := (List.getElem?_eq_some_iff.1 hx).1; simpa using this
    simp [hi] at hx
    subst hx
    obtain ⟨k, b, n, f, s, B, ln, c, h1, h2⟩ := hV i hi
    exact ⟨a, k, b, n, f, s, B, ln, c, rfl, h1, h2⟩
theorem Tags.ofTrod {n : Nat} {c : Value} {x : DataW H × List MemPlace} (h : DataW.trod enc Try.prog W 0 (fun _ => true) true n 32 [c] = some x) (hw : ∀ m ∈ x.1.weights Try.prog 32, m ≤ reachBytes) :
    ∃ A cap l, c = .slice A (List.length l) cap ∧ Tags W A l ∧ l.length ≤ cap ∧ cap ≤ maxLen := by
  rcases slice_each Try.underlying32 (sz := 7) (by kernel_rfl) h hw with rfl | ⟨a, len, cap, n', _, rfl, hlc, hcm, hx⟩
  · exact ⟨none, 0, [], rfl, fun i x hx => by simp at hx, Nat.le_refl _, Nat.zero_le _⟩
  · have c6 : Try.prog.cellsOf 31 = 6 := by kernel_rfl
    have c1 : Try.prog.cellsOf 9 = 1 := by kernel_rfl
    obtain ⟨V, hV⟩ := choose_lt (α := List UInt8 × Val) (n := len) (p := fun i v => ∃ k b n f s B ln c, v.1.length ≤ 140737488351232 ∧ Has W (valV k b n f s B ln c) v.2 ∧ TagAt W (a.add (i * 7)) v.1 k b n f s B ln c) (fun i hi => by
      obtain ⟨cs', y, hl, ht, hwt, hat⟩ := hx i hi
      obtain ⟨xs, n2, _, hxs, _, hlen, hfs⟩ := DataW.trod_struct Try.underlying52 ht
      have hlen : xs.length = 2 := hlen
      rw [hxs] at hwt
      simp only [DataW.weights, Try.underlying52] at hwt
      match cs', hl, xs, hlen with
      | [y0, y1, y2, y3, y4, y5, y6], _, [x0, x1], _ =>
        have f0 := hfs 0 _ rfl
        have f1 := hfs 1 _ rfl
        simp [c1, c6] at f0 f1
        obtain ⟨nm, rfl, hs0⟩ := trod_st Try.underlying9 f0
        have hnm : nm.length ≤ 140737488351232 := hwt _ (DataW.weights_mem_each (j := 0) (t := 9) rfl rfl _ (by show nm.length ∈ DataW.weights _ _ x0.1; rw [hs0]; simp [DataW.weights]))
        obtain ⟨v, hv⟩ := Has.ofTrod n2 _ _ f1 (fun m hm => hwt m (DataW.weights_mem_each (j := 1) (t := 31) rfl rfl m hm))
        obtain ⟨k, b, n, f, s, B, ln, c, rfl, rfl, rfl, rfl, rfl, rfl⟩ := hv.cells6
        have e0 := hat 0 _ rfl
        have e1 := hat 1 _ rfl
        have e2 := hat 2 _ rfl
        have e3 := hat 3 _ rfl
        have e4 := hat 4 _ rfl
        have e5 := hat 5 _ rfl
        have e6 := hat 6 _ rfl
        rw [← Go.Deep.add_add, add_succ] at e1 e2 e3 e4 e5 e6
        exact ⟨(nm, v), k, b, n, f, s, B, ln, c, hnm, hv, ⟨cell_lt' e0, e0, e1, e2, e3, e4, e5, e6⟩⟩)
    refine ⟨some a, cap, (List.range len).map V, by simp, fun i x hx => ?_, by simpa using hlc, hcm⟩
    have hi : i < len := by have := (List.getElem?_eq_some_iff.1 hx).1; simpa using this
    simp [hi] at hx
    subst hx
    obtain ⟨k, b, n, f, s, B, ln, c, h0, h1, h2⟩ := hV i hi
    exact ⟨a, k, b, n, f, s, B, ln, c, rfl, h0, h1, h2⟩
theorem HasT.ofTrod {n : Nat} {cs : List Value} {x : DataW H × List MemPlace} (h : DataW.trod enc Try.prog W 0 (fun _ => true) true n 34 cs = some x) (hw : ∀ m ∈ x.1.weights Try.prog 34, m ≤ reachBytes) :
    ∃ k b n f s B len c P pl pc T tl tc q t, Value.agg cs.toArray = travV k b n f s B len c P pl pc T tl tc q ∧ HasT W k b n f s B len c P pl pc T tl tc q t := by
  have c6 : Try.prog.cellsOf 31 = 6 := by kernel_rfl
  have c1 : Try.prog.cellsOf 29 = 1 := by kernel_rfl
  have c2 : Try.prog.cellsOf 32 = 1 := by kernel_rfl
  have c3 : Try.prog.cellsOf 2 = 1 := by kernel_rfl
  have c9 : Try.prog.cellsOf 34 = 9 := by kernel_rfl
  obtain ⟨xs, n2, _, hxs, hl, hlen, hfs⟩ := DataW.trod_struct Try.underlying34 h
  have hlen : xs.length = 4 := hlen
  rw [hxs] at hw
  simp only [DataW.weights, Try.underlying34] at hw
  rw [c9] at hl
  match cs, hl, xs, hlen with
  | [y0, y1, y2, y3, y4, y5, y6, y7, y8], _, [x0, x1, x2, x3], _ =>
    have f0 := hfs 0 _ rfl
    have f1 := hfs 1 _ rfl
    have f2 := hfs 2 _ rfl
    have f3 := hfs 3 _ rfl
    simp [c1, c2, c3, c6] at f0 f1 f2 f3
    obtain ⟨v, hv⟩ := Has.ofTrod n2 _ _ f0 (fun m hm => hw m (DataW.weights_mem_each (j := 0) (t := 31) rfl rfl m hm))
    obtain ⟨k, b, n, f, s, B, ln, c, rfl, rfl, rfl, rfl, rfl, rfl⟩ := hv.cells6
    obtain ⟨P, pc, pl, rfl, hp, hpc, hpm⟩ := Parts.ofTrod f1 (fun m hm => hw m (DataW.weights_mem_each (j := 1) (t := 29) rfl rfl m hm))
    obtain ⟨T, tc, tl, rfl, ht, htc, htm⟩ := Tags.ofTrod f2 (fun m hm => hw m (DataW.weights_mem_each (j := 2) (t := 32) rfl rfl m hm))
    obtain ⟨q, rfl, hq⟩ := trod_i64 Try.underlying2 f3
    exact ⟨k, b, n, f, s, B, ln, c, P, _, pc, T, _, tc, q, ⟨v, pl, tl, q⟩, rfl, ⟨hv, hp, rfl, hpc, hpm, ht, rfl, htc, htm, rfl, hq⟩⟩
theorem TParts.ofTrod {n : Nat} {c : Value} {x : DataW H × List MemPlace} (h : DataW.trod enc Try.prog W 0 (fun _ => true) true n 22 [c] = some x) (hw : ∀ m ∈ x.1.weights Try.prog 22, m ≤ reachBytes) :
    ∃ A cap l, c = .slice A (List.length l) cap ∧ TParts W A l ∧ l.length ≤ cap ∧ cap ≤ maxLen := by
  rcases slice_each Try.underlying22 (sz := 9) (by kernel_rfl) h hw with rfl | ⟨a, len, cap, n', _, rfl, hlc, hcm, hx⟩
  · exact ⟨none, 0, [], rfl, fun i x hx => by simp at hx, Nat.le_refl _, Nat.zero_le _⟩
  · obtain ⟨V, hV⟩ := choose_lt (α := TravD) (n := len) (p := fun i t => ∃ k b n f s B ln c P pl pc T tl tc q, HasT W k b n f s B ln c P pl pc T tl tc q t ∧ TravAt W (a.add (i * 9)) k b n f s B ln c P pl pc T tl tc q) (fun i hi => by
      obtain ⟨cs', y, hl, ht, hwt, hat⟩ := hx i hi
      obtain ⟨k, b, n, f, s, B, ln, c, P, pl, pc, T, tl, tc, q, t, he, hh⟩ := HasT.ofTrod ht hwt
      have he' : cs' = [.int .i64 k, .bool b, .int .i64 n, .float .f64 f, .string (st s), .slice B ln c, .slice P pl pc, .slice T tl tc, .int .i64 q] := by
        have := congrArg (fun v => match v with | Value.agg a => a.toList | _ => []) he
        simpa using this
      subst he'
      have e0 := hat 0 _ rfl
      have e1 := hat 1 _ rfl
      have e2 := hat 2 _ rfl
      have e3 := hat 3 _ rfl
      have e4 := hat 4 _ rfl
      have e5 := hat 5 _ rfl
      have e6 := hat 6 _ rfl
      have e7 := hat 7 _ rfl
      have e8 := hat 8 _ rfl
      rw [← Go.Deep.add_add, add_succ] at e1 e2 e3 e4 e5 e6 e7 e8
      exact ⟨t, k, b, n, f, s, B, ln, c, P, pl, pc, T, tl, tc, q, hh, ⟨cell_lt' e0, e0, e1, e2, e3, e4, e5, e6, e7, e8⟩⟩)
    refine ⟨some a, cap, (List.range len).map V, by simp, fun i x hx => ?_, by simpa using hlc, hcm⟩
    have hi : i < len := by have := (List.getElem?_eq_some_iff.1 hx).1; simpa using this
    simp [hi] at hx
    subst hx
    obtain ⟨k, b, n, f, s, B, ln, c, P, pl, pc, T, tl, tc, q, h1, h2⟩ := hV i hi
    exact ⟨a, k, b, n, f, s, B, ln, c, P, pl, pc, T, tl, tc, q, rfl, h1, h2⟩
end
end Go.Proofs.Ytfccplkfdhpdgaa
