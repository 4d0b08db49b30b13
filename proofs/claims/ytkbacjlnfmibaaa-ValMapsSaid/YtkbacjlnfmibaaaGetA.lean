
/-
  val's getter: take, fail.
-/
import Derived.Test.YtkbacjlnfmibaaaValL
import Derived.Lib.BufferOwn
set_option linter.unusedSimpArgs false
set_option linter.unusedVariables false
namespace Go.Proofs.Ytkbacjlnfmibaaa
open Go.RowKit

theorem st_extract (l : List UInt8) (a b : Nat) : (⟨l.toArray⟩ : ByteArray).extract a b = ⟨((l.take b).drop a).toArray⟩ := by
  apply ByteArray.ext
  simp [ByteArray.data_extract, List.extract_eq_take_drop, List.drop_take]
attribute [go_sem] st_extract
/-- what a getter holds: the bytes that are left, the first error -/
def GSt (w : World) (g : Nat) (s : List UInt8) (e : Int) : Prop := w.heap[g]? = some (.cells #[.string (st s), .int .i64 e] 58 (0, 0))
theorem GSt.lt {w : World} {g : Nat} {s : List UInt8} {e : Int} (h : GSt w g s e) : g < w.heap.size := (Array.getElem?_eq_some_iff.1 h).1
theorem GSt.c0 {w : World} {g : Nat} {s : List UInt8} {e : Int} (h : GSt w g s e) : w.cell? ⟨g, 0, none⟩ = some (.string (st s)) := by
  unfold GSt at h
  simp [World.cell?, h]
theorem GSt.c1 {w : World} {g : Nat} {s : List UInt8} {e : Int} (h : GSt w g s e) : w.cell? ⟨g, 1, none⟩ = some (.int .i64 e) := by
  unfold GSt at h
  simp [World.cell?, h]
theorem GSt.f0 {w : World} {g : Nat} {s : List UInt8} {e : Int} (h : GSt w g s e) (j : Nat) : w.frozen? ⟨g, j, none⟩ = false := by
  unfold GSt at h
  simp [World.frozen?, h]
theorem GSt.set0 {w : World} {g : Nat} {s : List UInt8} {e : Int} (h : GSt w g s e) (t : List UInt8) : GSt (w.setCell ⟨g, 0, none⟩ (.string (st t))) g t e := by
  unfold GSt at h ⊢
  simp [World.setCell, Array.getElem?_modify, h]
theorem GSt.set1 {w : World} {g : Nat} {s : List UInt8} {e : Int} (h : GSt w g s e) (x : Int) : GSt (w.setCell ⟨g, 1, none⟩ (.int .i64 x)) g s x := by
  unfold GSt at h ⊢
  simp [World.setCell, Array.getElem?_modify, h]
theorem GSt.keep {w w' : World} {g : Nat} {s : List UInt8} {e : Int} (h : GSt w g s e) (hb : Below w.heap.size w w') : GSt w' g s e := (hb.block g h.lt).trans h
theorem GSt.alloc {w : World} {g : Nat} {s : List UInt8} {e : Int} (h : GSt w g s e) (o : Obj) : GSt (w.alloc o) g s e := h.keep (below_alloc w o)
/-- a step of the getter's: nothing but it has turned -/
theorem g_trans {a w w' : World} {g : Nat} (h : a.grownBy w (some g)) (k : w.grownBy w' (some g)) : a.grownBy w' (some g) := Lib.grownBy_trans h k
theorem g_set (w : World) (g i : Nat) (v : Value) : w.grownBy (w.setCell ⟨g, i, none⟩ v) (some g) := Lib.grownBy_setCell w g i v
theorem g_refl (w : World) (g : Nat) : w.grownBy w (some g) := World.grownBy.refl w _
def tkE (s : List UInt8) (e : Int) (n : Nat) : Int := if e = 0 then (if s.length < n then 4 else 0) else e
def tkS (s : List UInt8) (e : Int) (n : Nat) : List UInt8 := if tkE s e n = 0 then s.take n else []
def tkR (s : List UInt8) (e : Int) (n : Nat) : List UInt8 := if tkE s e n = 0 then s.drop n else s
def TakeEnds (g : Nat) (s : List UInt8) (e : Int) (n : Nat) (w : World) (e0 : Ending) (w' : World) : Prop := e0 = .returned (.string (st (tkS s e n))) ∧ GSt w' g (tkR s e n) (tkE s e n) ∧ w.grownBy w' (some g)
set_option maxHeartbeats 1000000 in
theorem take_c (g : Nat) (s : List UInt8) (e : Int) (n : Nat) (w : World) (hg : GSt w g s e) (hn : n ≤ 100000) (hs : s.length ≤ 140737488351232) :
    Calls Try.prog 66 #[.pointer (some ⟨g, 0, none⟩), .int .i64 n] w (TakeEnds g s e n w) := by
  have c0 := hg.c0
  have c1 := hg.c1
  have f0 := hg.f0 0
  have f1 := hg.f0 1
  have hlt := hg.lt
  by_cases he : e = 0
  · subst he
    by_cases hl : s.length < n
    · have hl' : (s.length : Int) < n := by omega
      have fin : TakeEnds g s 0 n w (.returned (.string (st []))) (w.setCell ⟨g, 1, none⟩ (.int .i64 4)) := by
        have h4 : tkE s 0 n = 4 := by unfold tkE; rw [if_pos rfl, if_pos hl]
        refine ⟨?_, ?_, g_set _ _ _ _⟩
        · unfold tkS; rw [h4, if_neg (by decide)]
        · unfold tkR; rw [h4, if_neg (by decide)]; exact hg.set1 4
      clear hg
      go_enter Try.func66, Try.ntmps66
      go_wp2
      go_ret
      exact fin
    · have hl' : ¬ (s.length : Int) < n := by omega
      have hl2 : (n : Int) ≤ s.length := by omega
      have fin : TakeEnds g s 0 n w (.returned (.string (st (s.take n)))) (w.setCell ⟨g, 0, none⟩ (.string (st (s.drop n)))) := by
        have h4 : tkE s 0 n = 0 := by unfold tkE; rw [if_pos rfl, if_neg hl]
        refine ⟨?_, ?_, g_set _ _ _ _⟩
        · unfold tkS; rw [h4, if_pos rfl]
        · unfold tkR; rw [h4, if_pos rfl]; exact hg.set0 _
      clear hg
      go_enter Try.func66, Try.ntmps66
      go_wp2
      go_ret
      first
        | exact fin
        | (have e1 : (List.take s.length s).drop n = s.drop n := by rw [List.take_length]
           simp only [List.drop_zero, e1]; exact fin)
  · have he' : (e == 0) = false := by simpa using he
    have fin : TakeEnds g s e n w (.returned (.string (st []))) w := by
      have h4 : tkE s e n = e := by unfold tkE; rw [if_neg he]
      refine ⟨?_, ?_, g_refl _ _⟩
      · unfold tkS; rw [h4, if_neg he]
      · unfold tkR; rw [h4, if_neg he]; exact hg
    clear hg
    go_enter Try.func66, Try.ntmps66
    go_wp2
    go_ret
    exact fin
def flE (e x : Int) : Int := if e = 0 then x else e
def FailEnds (g : Nat) (s : List UInt8) (e x : Int) (w : World) (e0 : Ending) (w' : World) : Prop := e0 = .returned (.tuple #[]) ∧ GSt w' g s (flE e x) ∧ w.grownBy w' (some g)
set_option maxHeartbeats 1000000 in
theorem fail_c (g : Nat) (s : List UInt8) (e x : Int) (w : World) (hg : GSt w g s e) :
    Calls Try.prog 67 #[.pointer (some ⟨g, 0, none⟩), .int .i64 x] w (FailEnds g s e x w) := by
  have c0 := hg.c0
  have c1 := hg.c1
  have f1 := hg.f0 1
  have hlt := hg.lt
  by_cases he : e = 0
  · subst he
    have fin : FailEnds g s 0 x w (.returned (.tuple #[])) (w.setCell ⟨g, 1, none⟩ (.int .i64 x)) := ⟨rfl, by unfold flE; rw [if_pos rfl]; exact hg.set1 x, g_set _ _ _ _⟩
    clear hg
    go_enter Try.func67, Try.ntmps67
    go_wp2
    go_end0
    exact fin
  · have he' : (e == 0) = false := by simpa using he
    have fin : FailEnds g s e x w (.returned (.tuple #[])) w := ⟨rfl, by unfold flE; rw [if_neg he]; exact hg, g_refl _ _⟩
    clear hg
    go_enter Try.func67, Try.ntmps67
    go_wp2
    go_end0
    exact fin
end Go.Proofs.Ytkbacjlnfmibaaa
