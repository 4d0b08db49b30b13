
/-
  Rows of values that a call has laid itself.
-/
import Derived.Test.YtipjelkdbbhcpaaValD
set_option linter.unusedSimpArgs false
set_option linter.unusedVariables false
namespace Go.Proofs.Ytipjelkdbbhcpaa
open Go.RowKit Go.Deep

theorem Try.info27 : (Try.prog.info? 27).map (fun i => (i.zero, i.size, i.bytes)) = some (some (.agg #[.int .i64 0, .bool false, .int .i64 0, .float .f64 0, .string ByteArray.empty, .slice none 0 0]), 6, 72) := by kernel_rfl
abbrev valC (k : Int) (b : Bool) (n : Int) (f : Nat) (s : List UInt8) (B : Option Addr) (len c : Nat) : List Value := [.int .i64 k, .bool b, .int .i64 n, .float .f64 f, .string (st s), .slice B len c]
/-- the cells of a row of values -/
def VRow (w : World) (ys : List Val) (xs : List Value) : Prop := xs.length = ys.length * 6 ∧ ∀ (i : Nat) (x : Val), ys[i]? = some x → ∃ k b n f s B len c, Has w (valV k b n f s B len c) x ∧ ∀ j u, (valC k b n f s B len c)[j]? = some u → xs[i * 6 + j]? = some u
theorem VRow.keep {w w' : World} {ys : List Val} {xs : List Value} (h : VRow w ys xs) (hb : Below w.heap.size w w') : VRow w' ys xs := ⟨h.1, fun i t hi => by
  obtain ⟨k, b, n, f, s, B, len, c, h1, h2⟩ := h.2 i t hi
  exact ⟨k, b, n, f, s, B, len, c, h1.keep hb, h2⟩⟩
theorem VRow.nil (w : World) : VRow w [] [] := ⟨rfl, fun i t h => by simp at h⟩
theorem VRow.snoc {w : World} {ys : List Val} {xs : List Value} (h : VRow w ys xs) {k : Int} {b : Bool} {n : Int} {f : Nat} {s : List UInt8} {B : Option Addr} {len c : Nat} {x : Val} (hx : Has w (valV k b n f s B len c) x) :
    VRow w (ys ++ [x]) (xs ++ valC k b n f s B len c) := by
  refine ⟨by rw [List.length_append, List.length_append, h.1]; simp; omega, fun i t' hi => ?_⟩
  by_cases hl : i < ys.length
  · rw [List.getElem?_append_left hl] at hi
    obtain ⟨k, b, n, f, s, B, len, c, h1, h2⟩ := h.2 i t' hi
    refine ⟨k, b, n, f, s, B, len, c, h1, fun j u hu => ?_⟩
    have h3 := h2 j u hu
    rw [List.getElem?_append_left (List.getElem?_eq_some_iff.1 h3).1]
    exact h3
  · have hl2 : i = ys.length := by
      have := (List.getElem?_eq_some_iff.1 hi).1
      simp at this; omega
    subst hl2
    simp at hi
    subst hi
    refine ⟨k, b, n, f, s, B, len, c, hx, fun j u hu => ?_⟩
    rw [List.getElem?_append_right (by rw [h.1]; omega), h.1, show ys.length * 6 + j - ys.length * 6 = j by omega]
    exact hu
/-- a row of one's own, as a slice of values -/
theorem Parts.ofRow {w : World} {base : Nat} {v : Value} {ys : List Val} {xs : List Value} (ho : w.ownsRow base 27 6 v ys.length xs) (hr : VRow w ys xs) : ∃ A cap, v = .slice A ys.length cap ∧ Parts w A ys ∧ ys.length ≤ cap ∧ cap ≤ maxLen := by
  rcases ho.2 with ⟨hv, hn⟩ | ⟨g, cap, cur, hv, hb, hc, hn, hm, hs, ht⟩
  · have e : ys = [] := List.eq_nil_of_length_eq_zero hn
    subst e
    exact ⟨none, 0, hv, (fun i t h => by simp at h), Nat.le_refl _, Nat.zero_le _⟩
  · refine ⟨some ⟨g, 0, none⟩, cap, hv, fun i t hi => ?_, hn, hm⟩
    obtain ⟨k, b, n, f, s, B, len, c, h1, h2⟩ := hr.2 i t hi
    have hil : i < ys.length := (List.getElem?_eq_some_iff.1 hi).1
    have hcell : ∀ j u, (valC k b n f s B len c)[j]? = some u → w.cell? ⟨g, i * 6 + j, none⟩ = some u := fun j u hu => by
      have h3 := h2 j u hu
      rw [hv] at ho
      have hlt : i * 6 + j < ys.length * 6 := by have := (List.getElem?_eq_some_iff.1 h3).1; rw [hr.1] at this; exact this
      rw [ho.cellAt (i * 6 + j) hlt]
      exact h3
    have ha : (⟨g, 0, none⟩ : Addr).add (i * 6) = ⟨g, i * 6, none⟩ := by cases i with | zero => rfl | succ i => simp [Addr.add]
    have e0 := hcell 0 _ rfl
    refine ⟨⟨g, 0, none⟩, k, b, n, f, s, B, len, c, rfl, h1, ?_⟩
    rw [ha]
    exact ⟨cell_lt' e0, e0, hcell 1 _ rfl, hcell 2 _ rfl, hcell 3 _ rfl, hcell 4 _ rfl, hcell 5 _ rfl⟩
theorem owns_empty6 (w : World) (T : TypeId) (base : Nat) (hb : base ≤ w.heap.size) : (w.alloc (.cells #[] T)).ownsRow base T 6 (.slice (some ⟨w.heap.size, 0, none⟩) 0 0) 0 [] :=
  ⟨rfl, .inr ⟨w.heap.size, 0, #[], rfl, hb, by show (w.heap.push _)[w.heap.size]? = _; simp, Nat.le_refl _, by unfold maxLen; omega, rfl, rfl⟩⟩
/-- a slice of values of which it is known what they are -/
def PartsEnds (ys : List Val) (n : Nat) (w : World) (e : Ending) (w' : World) : Prop := ∃ A cap, e = .returned (.slice A n cap) ∧ Parts w' A ys ∧ n ≤ cap ∧ cap ≤ maxLen ∧ Below w.heap.size w w'
end Go.Proofs.Ytipjelkdbbhcpaa
