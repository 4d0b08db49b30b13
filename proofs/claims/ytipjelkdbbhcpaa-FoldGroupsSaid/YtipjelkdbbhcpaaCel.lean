
/-
  A variable that holds a value, stored into anew.
-/
import Derived.Test.YtipjelkdbbhcpaaValC
import Derived.Test.YtipjelkdbbhcpaaRel
set_option linter.unusedSimpArgs false
set_option linter.unusedVariables false
namespace Go.Proofs.Ytipjelkdbbhcpaa
open Go.RowKit Go.Deep

theorem set_heap' {w : World} {g : Nat} {Y : TypeId} {cs : Array Value} (h : w.heap[g]? = some (.cells cs Y)) (j : Nat) (u : Value) : (w.setCell ⟨g, j, none⟩ u).heap[g]? = some (.cells (cs.setIfInBounds j u) Y) := by
  simp [World.setCell, Array.getElem?_modify, h]
/-- a value, stored into a variable -/
def put6 (w : World) (g : Nat) (k : Int) (b : Bool) (n : Int) (f : Nat) (s : List UInt8) (B : Option Addr) (len c : Nat) : World :=
  (((((w.setCell ⟨g, 0, none⟩ (.int .i64 k)).setCell ⟨g, 1, none⟩ (.bool b)).setCell ⟨g, 2, none⟩ (.int .i64 n)).setCell ⟨g, 3, none⟩ (.float .f64 f)).setCell ⟨g, 4, none⟩ (.string (st s))).setCell ⟨g, 5, none⟩ (.slice B len c)
/-- a variable that holds this value and may be written -/
structure Cel (w : World) (g : Nat) (k : Int) (b : Bool) (n : Int) (f : Nat) (s : List UInt8) (B : Option Addr) (len c : Nat) : Prop where
  box : Box w g k b n f s B len c
  row : ∃ cs, w.heap[g]? = some (.cells cs 27)
theorem Cel.lt {w : World} {g : Nat} {k : Int} {b : Bool} {n : Int} {f : Nat} {s : List UInt8} {B : Option Addr} {len c : Nat} (h : Cel w g k b n f s B len c) : g < w.heap.size := h.box.lt
theorem Cel.frozen {w : World} {g : Nat} {k : Int} {b : Bool} {n : Int} {f : Nat} {s : List UInt8} {B : Option Addr} {len c : Nat} (h : Cel w g k b n f s B len c) (j : Nat) : w.frozen? ⟨g, j, none⟩ = false := by
  obtain ⟨cs, h⟩ := h.row
  exact frozen_of h j
theorem Cel.other {w w' : World} {g : Nat} {k : Int} {b : Bool} {n : Int} {f : Nat} {s : List UInt8} {B : Option Addr} {len c : Nat} (h : Cel w g k b n f s B len c) (hs : w.heap.size ≤ w'.heap.size) (he : w'.heap[g]? = w.heap[g]?) : Cel w' g k b n f s B len c := by
  have e : ∀ j, w'.cell? ⟨g, j, none⟩ = w.cell? ⟨g, j, none⟩ := fun j => by simp only [World.cell?, he]
  obtain ⟨x, x0, x1, x2, x3, x4, x5⟩ := h.box
  obtain ⟨cs, hc⟩ := h.row
  exact ⟨⟨Nat.lt_of_lt_of_le x hs, (e _).trans x0, (e _).trans x1, (e _).trans x2, (e _).trans x3, (e _).trans x4, (e _).trans x5⟩, cs, he.trans hc⟩
theorem Cel.keep {w w' : World} {g : Nat} {k : Int} {b : Bool} {n : Int} {f : Nat} {s : List UInt8} {B : Option Addr} {len c : Nat} (h : Cel w g k b n f s B len c) (hb : Below w.heap.size w w') : Cel w' g k b n f s B len c := h.other hb.size (hb.block g h.lt)
theorem Cel.new (w : World) (k : Int) (b : Bool) (n : Int) (f : Nat) (s : List UInt8) (B : Option Addr) (len c : Nat) : Cel (w.alloc (.cells #[.int .i64 k, .bool b, .int .i64 n, .float .f64 f, .string (st s), .slice B len c] 27)) w.heap.size k b n f s B len c :=
  ⟨Box.new w k b n f s B len c _, _, alloc_here _ _⟩
theorem put6_heap {w : World} {g i : Nat} (hi : i ≠ g) (k : Int) (b : Bool) (n : Int) (f : Nat) (s : List UInt8) (B : Option Addr) (len c : Nat) : (put6 w g k b n f s B len c).heap[i]? = w.heap[i]? := by
  unfold put6
  iterate 6 rw [Below.heap_setCell _ _ _ _ (by exact hi)]
theorem put6_size {w : World} {g : Nat} {k : Int} {b : Bool} {n : Int} {f : Nat} {s : List UInt8} {B : Option Addr} {len c : Nat} : (put6 w g k b n f s B len c).heap.size = w.heap.size := by simp [put6, World.setCell]
theorem put6_below {w0 w : World} {g M : Nat} (h : Below M w0 w) (hM : M ≤ g) (k : Int) (b : Bool) (n : Int) (f : Nat) (s : List UInt8) (B : Option Addr) (len c : Nat) : Below M w0 (put6 w g k b n f s B len c) :=
  (((((h.setCell (p := ⟨g, 0, none⟩) hM _).setCell (p := ⟨g, 1, none⟩) hM _).setCell (p := ⟨g, 2, none⟩) hM _).setCell (p := ⟨g, 3, none⟩) hM _).setCell (p := ⟨g, 4, none⟩) hM _).setCell (p := ⟨g, 5, none⟩) hM _
theorem Cel.put {w : World} {g : Nat} {k' : Int} {b' : Bool} {n' : Int} {f' : Nat} {s' : List UInt8} {B' : Option Addr} {len' c' : Nat} (h : Cel w g k' b' n' f' s' B' len' c') (k : Int) (b : Bool) (n : Int) (f : Nat) (s : List UInt8) (B : Option Addr) (len c : Nat) : Cel (put6 w g k b n f s B len c) g k b n f s B len c := by
  obtain ⟨x, x0, x1, x2, x3, x4, x5⟩ := h.box
  obtain ⟨cs, hc⟩ := h.row
  refine ⟨?_, _, set_heap' (set_heap' (set_heap' (set_heap' (set_heap' (set_heap' hc _ _) _ _) _ _) _ _) _ _) _ _⟩
  constructor <;> simp [put6, go_sem, x, x0, x1, x2, x3, x4, x5]
end Go.Proofs.Ytipjelkdbbhcpaa
