/-
  Rows of texts and of numbers that were handed in: how they read; opened.
-/
import Derived.Test.YtijkliffgihglaaFrG
import Derived.Deep.Slices
import Derived.ProofKit
import Derived.OpenShut
set_option linter.unusedSimpArgs false
set_option linter.unusedVariables false
namespace Go.Proofs.Ytijkliffgihglaa
open Go.ChangeShapes Go.WideShapes Go.ChangeAt Go.RowKit Go.Deep

/-- a slice of texts that reads as ss -/
structure Strs (w : World) (A : Option Addr) (len : Nat) (ss : List (List UInt8)) : Prop where
  max : len ≤ maxLen
  length : ss.length = len
  each : ∀ k, k < len → (ss.getD k []).length ≤ maxLen
  at_ : ∀ k, k < len → ∃ ad, A = some ad ∧ (ad.add k).block < w.heap.size ∧ w.cell? (ad.add k) = some (.string (st (ss.getD k [])))
/-- a slice of numbers that reads as zs -/
structure Ints (w : World) (A : Option Addr) (len : Nat) (zs : List Int) : Prop where
  max : len ≤ maxLen
  length : zs.length = len
  at_ : ∀ k, k < len → ∃ ad, A = some ad ∧ (ad.add k).block < w.heap.size ∧ w.cell? (ad.add k) = some (.int .i64 (zs.getD k 0))
theorem cell_lt {w : World} {a : Addr} {v : Value} (h : w.cell? a = some v) : a.block < w.heap.size := by
  rcases Nat.lt_or_ge a.block w.heap.size with h1 | h1
  · exact h1
  · have e : w.heap[a.block]? = none := Array.getElem?_eq_none h1
    simp [World.cell?, e] at h
theorem Strs.below {w w' : World} {A : Option Addr} {len : Nat} {ss : List (List UInt8)} (h : Strs w A len ss) (hb : Below w.heap.size w w') : Strs w' A len ss :=
  ⟨h.max, h.length, h.each, fun k hk => by obtain ⟨ad, h1, h2, h3⟩ := h.at_ k hk; exact ⟨ad, h1, Nat.lt_of_lt_of_le h2 hb.size, (hb.cell h2).trans h3⟩⟩
theorem Ints.below {w w' : World} {A : Option Addr} {len : Nat} {zs : List Int} (h : Ints w A len zs) (hb : Below w.heap.size w w') : Ints w' A len zs :=
  ⟨h.max, h.length, fun k hk => by obtain ⟨ad, h1, h2, h3⟩ := h.at_ k hk; exact ⟨ad, h1, Nat.lt_of_lt_of_le h2 hb.size, (hb.cell h2).trans h3⟩⟩
theorem trod_str1 {H : Type} {enc : TypeId × Value → H} {P : Program} {w : World} {base : Nat} {spare : Nat → Bool} {held : Bool} {n e : Nat} {v : Value} {x : DataW H × List MemPlace}
    (he : P.underlying e = some .string) (h : DataW.trod enc P w base spare held n e [v] = some x) : ∃ b : List UInt8, v = .string (st b) ∧ b.length ≤ maxLen := by
  obtain ⟨s, h1, _, h2⟩ := DataW.trod_string he h
  refine ⟨s.data.toList, ?_, by rw [Array.length_toList]; exact h2⟩
  simp at h1
  rw [h1]
theorem trod_int1 {H : Type} {enc : TypeId × Value → H} {P : Program} {w : World} {base : Nat} {spare : Nat → Bool} {held : Bool} {n e : Nat} {v : Value} {x : DataW H × List MemPlace}
    (he : P.underlying e = some (.int .i64)) (h : DataW.trod enc P w base spare held n e [v] = some x) : ∃ b : Int, v = .int .i64 b := by
  obtain ⟨s, h1, _, h2⟩ := DataW.trod_int he h
  simp at h1
  exact ⟨s, h1⟩
theorem Strs.ofTrod {H : Type} {enc : TypeId × Value → H} {P : Program} {W : World} {t e : Nat} {A : Option Addr} {len cap : Nat} {d : DataW H} {ps : List MemPlace}
    (ht : P.underlying t = some (.slice e)) (he : P.underlying e = some .string) (hc : P.cellsOf e = 1)
    (h : DataW.Trod enc P W 0 (fun _ => true) true t (.slice A len cap) d ps) : ∃ ss, Strs W A len ss := by
  obtain ⟨fuel, hf⟩ := h
  rcases open_slice1 ht hc hf with ⟨hcs, _⟩ | ⟨a, l, c, m, n, V, D, Pl, hcs, _, hl, hm, hmm, _, hx⟩
  · simp [Value.cells] at hcs
    obtain ⟨rfl, rfl, rfl⟩ := hcs
    exact ⟨[], Nat.zero_le _, rfl, fun k hk => absurd hk (by omega), fun k hk => absurd hk (by omega)⟩
  · simp [Value.cells] at hcs
    obtain ⟨rfl, rfl, rfl⟩ := hcs
    simp at hmm
    subst hmm
    obtain ⟨B, hB⟩ := choose_lt (α := List UInt8) (n := len) (p := fun i b => W.cell? (a.add i) = some (.string (st b)) ∧ b.length ≤ maxLen) (fun i hi => by
      obtain ⟨h1, h2⟩ := hx i (by omega)
      obtain ⟨b, hb, hbl⟩ := trod_str1 he h2
      exact ⟨b, by rw [h1, hb], hbl⟩)
    refine ⟨(List.range len).map B, Nat.le_trans hl hm, by simp, fun k hk => ?_, fun k hk => ⟨a, rfl, cell_lt (hB k hk).1, ?_⟩⟩
    · have := (hB k hk).2
      simpa [List.getD, hk] using this
    · rw [(hB k hk).1]
      simp [List.getD, hk]
theorem Ints.ofTrod {H : Type} {enc : TypeId × Value → H} {P : Program} {W : World} {t e : Nat} {A : Option Addr} {len cap : Nat} {d : DataW H} {ps : List MemPlace}
    (ht : P.underlying t = some (.slice e)) (he : P.underlying e = some (.int .i64)) (hc : P.cellsOf e = 1)
    (h : DataW.Trod enc P W 0 (fun _ => true) true t (.slice A len cap) d ps) : ∃ zs, Ints W A len zs := by
  obtain ⟨fuel, hf⟩ := h
  rcases open_slice1 ht hc hf with ⟨hcs, _⟩ | ⟨a, l, c, m, n, V, D, Pl, hcs, _, hl, hm, hmm, _, hx⟩
  · simp [Value.cells] at hcs
    obtain ⟨rfl, rfl, rfl⟩ := hcs
    exact ⟨[], Nat.zero_le _, rfl, fun k hk => absurd hk (by omega)⟩
  · simp [Value.cells] at hcs
    obtain ⟨rfl, rfl, rfl⟩ := hcs
    simp at hmm
    subst hmm
    obtain ⟨B, hB⟩ := choose_lt (α := Int) (n := len) (p := fun i b => W.cell? (a.add i) = some (.int .i64 b)) (fun i hi => by
      obtain ⟨h1, h2⟩ := hx i (by omega)
      obtain ⟨b, hb⟩ := trod_int1 he h2
      exact ⟨b, by rw [h1, hb]⟩)
    refine ⟨(List.range len).map B, Nat.le_trans hl hm, by simp, fun k hk => ⟨a, rfl, cell_lt (hB k hk), ?_⟩⟩
    rw [hB k hk]
    simp [List.getD, hk]
end Go.Proofs.Ytijkliffgihglaa
