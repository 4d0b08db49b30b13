
/-
  Pages: what is done with one, as it was handed in.
-/
import Derived.Test.YtgcoepljlkahoaaPgU
import Derived.Test.YtgcoepljlkahoaaPgS
import Derived.ProofKit
import Derived.OpenShut
import Derived.Deep.Slices
set_option linter.unusedSimpArgs false
set_option linter.unusedVariables false
namespace Go.Proofs.Ytgcoepljlkahoaa
open Go.ChangeShapes Go.WideShapes Go.ChangeAt Go.RowKit Go.Deep

structure ActAt (w : World) (a : Addr) (k : Int) (id : Nat) (s : List UInt8) : Prop where
  lt : a.block < w.heap.size
  c0 : w.cell? a = some (.int .i64 k)
  c1 : w.cell? ⟨a.block, a.off + 1, none⟩ = some (.int .u64 (id : Int))
  c2 : w.cell? ⟨a.block, a.off + 2, none⟩ = some (.string (st s))
theorem ActAt.keep {w w' : World} {a : Addr} {k : Int} {id : Nat} {s : List UInt8} (h : ActAt w a k id s) (hb : Below w.heap.size w w') : ActAt w' a k id s :=
  ⟨Nat.lt_of_lt_of_le h.lt hb.size, (hb.cell (p := a) h.lt).trans h.c0, (hb.cell (p := ⟨a.block, a.off + 1, none⟩) h.lt).trans h.c1, (hb.cell (p := ⟨a.block, a.off + 2, none⟩) h.lt).trans h.c2⟩
structure Acts (w : World) (A : Option Addr) (n : Nat) : Prop where
  at_ : ∀ i, i < n → ∃ ad k id s, A = some ad ∧ ActAt w (ad.add (i * 3)) k id s ∧ id ≤ 18446744073709551615 ∧ s.length ≤ maxLen
section
variable {H : Type} {enc : TypeId × Value → H} {W : World}
theorem act_open {n : Nat} {cs : List Value} {x : DataW H × List MemPlace} (h : DataW.trod enc Try.prog W 0 (fun _ => true) true n 43 cs = some x) : ∃ (k : Int) (id : Nat) (s : List UInt8), cs = [.int .i64 k, .int .u64 (id : Int), .string (st s)] ∧ id ≤ 18446744073709551615 ∧ s.length ≤ maxLen := by
  have hc3 : Try.prog.cellsOf 43 = 3 := by kernel_rfl
  have c1 : Try.prog.cellsOf 3 = 1 := by kernel_rfl
  have c2 : Try.prog.cellsOf 26 = 1 := by kernel_rfl
  have c5 : Try.prog.cellsOf 9 = 1 := by kernel_rfl
  obtain ⟨xs, n, hn, hxs, hl, hlen, hfs⟩ := DataW.trod_struct Try.underlying43 h
  rw [hc3] at hl
  match cs, hl with
  | [y0, y1, y2], _ =>
    have hlen : xs.length = 3 := hlen
    match xs, hlen with
    | [x0, x1, x2], _ =>
      have f0 := hfs 0 _ rfl
      have f1 := hfs 1 _ rfl
      have f2 := hfs 2 _ rfl
      simp [c1, c2, c5] at f0 f1 f2
      obtain ⟨k, e0, _, _⟩ := DataW.trod_int Try.underlying3 f0
      obtain ⟨m, e1, _, hm⟩ := DataW.trod_int Try.underlying26 f1
      obtain ⟨s, e2, _, hs⟩ := DataW.trod_string Try.underlying9 f2
      simp at e0 e1 e2
      simp [Lit.wf, IntKind.min, IntKind.max, IntKind.signed, IntKind.bits] at hm
      refine ⟨k, m.toNat, s.data.toList, ?_, by omega, by rw [Array.length_toList]; exact hs⟩
      rw [e0, e1, e2, Int.toNat_of_nonneg hm.1]
theorem Acts.ofTrod {n : Nat} {c : Value} {x : DataW H × List MemPlace} (h : DataW.trod enc Try.prog W 0 (fun _ => true) true n 41 [c] = some x) :
    ∃ A cap len, c = .slice A len cap ∧ Acts W A len ∧ len ≤ maxLen := by
  rcases DataW.trod_slice Try.underlying41 h with ⟨h5, _⟩ | ⟨a, len, cap, elems, rest, n', hn', h5, hx5, _, hlc, hcm, hel, hes, _, _⟩
  · simp at h5
    exact ⟨none, 0, 0, h5, ⟨fun i hi => absurd hi (Nat.not_lt_zero _)⟩, Nat.zero_le _⟩
  · simp at h5
    refine ⟨some a, cap, len, h5, ⟨fun i hi => ?_⟩, Nat.le_trans hlc hcm⟩
    have h1 := hes i hi
    rw [List.getElem?_eq_getElem (by omega)] at h1
    obtain ⟨cs', h2, h3⟩ := Option.bind_eq_some_iff.1 h1
    have hc3 : Try.prog.cellsOf 43 = 3 := by kernel_rfl
    rw [hc3] at h2
    obtain ⟨_, hcl, hat⟩ := World.cells?_some h2
    obtain ⟨k, id, s, hcs, h4, h6⟩ := act_open h3
    subst hcs
    have e0 := hat 0 (by omega)
    have e1 := hat 1 (by omega)
    have e2 := hat 2 (by omega)
    simp at e0 e1 e2
    have e0 : W.cell? (a.add (i * 3)) = some (.int .i64 k) := by simpa [Addr.add] using e0
    refine ⟨a, k, id, s, rfl, ⟨?_, e0, ?_, ?_⟩, h4, h6⟩
    · rcases Nat.lt_or_ge (a.add (i * 3)).block W.heap.size with h1 | h1
      · exact h1
      · have e : W.heap[(a.add (i * 3)).block]? = none := Array.getElem?_eq_none h1
        simp [World.cell?, e] at e0
    · simpa [Addr.add] using e1
    · simpa [Addr.add] using e2
end
end Go.Proofs.Ytgcoepljlkahoaa
