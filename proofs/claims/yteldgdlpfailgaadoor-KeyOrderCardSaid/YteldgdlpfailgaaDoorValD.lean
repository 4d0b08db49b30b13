
/-
  val.Cmp, and what it calls.
-/
import Derived.Test.YteldgdlpfailgaaDoorValC
import Derived.Laws.Externs
set_option linter.unusedSimpArgs false
set_option linter.unusedVariables false
namespace Go.Proofs.YteldgdlpfailgaaDoor
open Go.RowKit

def numV (ka kb na nb : Int) (fa fb : Nat) : Int := if ka = 2 ∧ kb = 2 then sgnI na nb else if ka = 2 then mixF na fb else if kb = 2 then - mixF nb fa else cmpF fa fb
theorem numV_eq (ka kb na nb : Int) (fa fb : Nat) (ba bb : Bool) (sa sb : List UInt8) (la lb : List Val) (ha : ka = 2 ∨ ka = 3) (hb : kb = 2 ∨ kb = 3) : cmpV (.mk ka ba na fa sa la) (.mk kb bb nb fb sb lb) = numV ka kb na nb fa fb := by
  rcases ha with rfl | rfl <;> rcases hb with rfl | rfl <;> simp [cmpV, numV, rcls]

/-- the parts of a slice of values -/
def Parts (w : World) (A : Option Addr) (la : List Val) : Prop := ∀ (i : Nat) (x : Val), la[i]? = some x → ∃ ad k b n f s B len c, A = some ad ∧ Has w (valV k b n f s B len c) x ∧ ValAt w (ad.add (i * 6)) k b n f s B len c
theorem Parts.keep {w w' : World} {A : Option Addr} {la : List Val} (h : Parts w A la) (hb : Below w.heap.size w w') : Parts w' A la := fun i x hx => by
  obtain ⟨ad, k, b, n, f, s, B, len, c, h1, h2, h3⟩ := h i x hx
  exact ⟨ad, k, b, n, f, s, B, len, c, h1, h2.keep hb, h3.keep hb⟩

end Go.Proofs.YteldgdlpfailgaaDoor
