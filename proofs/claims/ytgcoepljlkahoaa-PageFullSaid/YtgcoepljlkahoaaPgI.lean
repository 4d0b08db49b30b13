
/-
  Rows of numbers that were handed in; bytes that are made as noughts.
-/
import Derived.Test.YtgcoepljlkahoaaPgG
import Derived.Deep.Slices
import Derived.ProofKit
import Derived.OpenShut
import Derived.Laws.MakeOwn
set_option linter.unusedSimpArgs false
set_option linter.unusedVariables false
namespace Go.Proofs.Ytgcoepljlkahoaa
open Go.ChangeShapes Go.WideShapes Go.ChangeAt Go.RowKit Go.Deep

/-- a slice of numbers that reads as zs -/
structure Ints (w : World) (A : Option Addr) (len : Nat) (zs : List Int) : Prop where
  max : len ≤ maxLen
  length : zs.length = len
  at_ : ∀ k, k < len → ∃ ad, A = some ad ∧ (ad.add k).block < w.heap.size ∧ w.cell? (ad.add k) = some (.int .i64 (zs.getD k 0))
theorem cell_lt {w : World} {a : Addr} {v : Value} (h : w.cell? a = some v) : a.block < w.heap.size := by
  rcases Nat.lt_or_ge a.block w.heap.size with h1 | h1
  · exact h1
  · have e : w.heap[a.block]? = none := Array.getElem?_eq_none h1
    simp [World.cell?, e] at h
theorem Ints.below {w w' : World} {A : Option Addr} {len : Nat} {zs : List Int} (h : Ints w A len zs) (hb : Below w.heap.size w w') : Ints w' A len zs :=
  ⟨h.max, h.length, fun k hk => by obtain ⟨ad, h1, h2, h3⟩ := h.at_ k hk; exact ⟨ad, h1, Nat.lt_of_lt_of_le h2 hb.size, (hb.cell h2).trans h3⟩⟩
theorem trod_int1 {H : Type} {enc : TypeId × Value → H} {P : Program} {w : World} {base : Nat} {spare : Nat → Bool} {held : Bool} {n e : Nat} {v : Value} {x : DataW H × List MemPlace}
    (he : P.underlying e = some (.int .i64)) (h : DataW.trod enc P w base spare held n e [v] = some x) : ∃ b : Int, v = .int .i64 b := by
  obtain ⟨s, h1, _, h2⟩ := DataW.trod_int he h
  simp at h1
  exact ⟨s, h1⟩
theorem Try.info5 : (Try.prog.info? 5).map (fun i => (i.zero, i.size, i.bytes)) = some (some (.int .u8 0), 1, 1) := by kernel_rfl
abbrev noughts (K : Nat) : Array Value := ((List.replicate K (0 : Int)).map (Value.int .u8)).toArray
theorem make_run (w : World) (K : Nat) (hK : K ≤ 100000) :
    (Instr.makeSlice 27 (.int .i64 K) (.int .i64 K)).run Try.prog w = .ok (.slice (some ⟨w.heap.size, 0, none⟩) K K) (w.alloc (.cells (noughts K) 5)) := by
  obtain ⟨i, hi, hz0, hz1, hz2⟩ := info_parts Try.info5
  have h := run_makeSlice (P := Try.prog) (w := w) 27 5 i (.int .u8 0) Try.underlying27 hi hz0 .i64 .i64 K K (by omega) (by omega) (by rw [hz1]; omega) (by rw [hz2]; omega) (by omega)
  rw [hz1] at h
  simp only [Int.toNat_natCast, Nat.mul_one, Value.cells] at h
  have hc : madeCells #[.int .u8 0] K = noughts K := by
    apply Array.toList_inj.1
    rw [toList_madeCells_one]
    simp [noughts]
  rw [hc] at h
  exact h
theorem conv_noughts (w : World) (T K : Nat) :
    (convert 27 9 (.slice (some ⟨w.heap.size, 0, none⟩) K K)).run Try.prog (w.alloc (.cells (noughts K) T)) = .ok (.string (st (List.replicate K 0))) (w.alloc (.cells (noughts K) T)) := by
  have h := conv_new w T (List.replicate K (0 : Int))
  rw [List.length_replicate] at h
  have e : (List.replicate K (0 : Int)).map byte = List.replicate K 0 := by simp [byte]
  rw [e] at h
  exact h

theorem and511 (n : Int) : ∃ j : Nat, bits .and .i64 n 511 = (j : Int) ∧ j < 512 := by
  have e : bits .and .i64 n 511 = IntKind.i64.wrap ((BitVec.ofInt 64 n &&& BitVec.ofInt 64 511).toNat : Int) := rfl
  have h3 : (BitVec.ofInt 64 n &&& BitVec.ofInt 64 511).toNat < 512 := by
    rw [BitVec.toNat_and]
    exact Nat.lt_of_le_of_lt Nat.and_le_right (by decide)
  exact ⟨_, e.trans (by rw [IntKind.wrap_i64]; omega), h3⟩
theorem Ints.ofTrod {H : Type} {enc : TypeId × Value → H} {P : Program} {W : World} {t e : Nat} {A : Option Addr} {len cap : Nat} {d : DataW H} {ps : List MemPlace}
    (ht : P.underlying t = some (.slice e)) (he : P.underlying e = some (.int .i64)) (hc : P.cellsOf e = 1)
    (h : DataW.Trod enc P W 0 (fun _ => true) true t (.slice A len cap) d ps) : ∃ zs, Ints W A len zs := by
  obtain ⟨fuel, hf⟩ := h
  rcases open_slice1 ht hc hf with ⟨hcs, _⟩ | ⟨a, l, c, m, n, V, D, Pl, hcs, _, hl, hm, hmm, _, hx⟩
  · simp [Value.cells] at hcs
    obtain ⟨rfl, rfl, rfl⟩ := hcs
    exact ⟨[], Nat.zero_le _, rfl, fun k hk => absurd hk (by omega)⟩
  · simp [Value.cells] at hcs
    obtain ⟨rfl, rfl, rfl⟩ := hcs
    simp at hmm
    subst hmm
    obtain ⟨B, hB⟩ := choose_lt (α := Int) (n := len) (p := fun i b => W.cell? (a.add i) = some (.int .i64 b)) (fun i hi => by
      obtain ⟨h1, h2⟩ := hx i (by omega)
      obtain ⟨b, hb⟩ := trod_int1 he h2
      exact ⟨b, by rw [h1, hb]⟩)
    refine ⟨(List.range len).map B, Nat.le_trans hl hm, by simp, fun k hk => ⟨a, rfl, cell_lt (hB k hk), ?_⟩⟩
    rw [hB k hk]
    simp [List.getD, hk]
end Go.Proofs.Ytgcoepljlkahoaa
