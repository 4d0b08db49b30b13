
/-
  val.Copy.
-/
import Derived.Test.YtkbacjlnfmibaaaAwk
import Derived.Test.YtkbacjlnfmibaaaWgh
import Derived.Test.YtkbacjlnfmibaaaRel
import Derived.Deep.OwnRows
set_option linter.unusedSimpArgs false
set_option linter.unusedVariables false
namespace Go.Proofs.Ytkbacjlnfmibaaa
open Go.RowKit Go.Deep

/-- the cells of a row of empty values -/
def zCell (j : Nat) : Value := if j % 6 = 0 then .int .i64 0 else if j % 6 = 1 then .bool false else if j % 6 = 2 then .int .i64 0 else if j % 6 = 3 then .float .f64 0 else if j % 6 = 4 then .string ByteArray.empty else .slice none 0 0
theorem make6 (n : Nat) (hn : 72 * n ≤ 281474976710656) (w : World) :
    ∃ c : Array Value, (Instr.makeSlice 23 (.int .i64 (n : Int)) (.int .i64 (n : Int))).run Try.prog w = .ok (.slice (some ⟨w.heap.size, 0, none⟩) n n) (w.alloc (.cells c 25)) ∧ c.size = n * 6 ∧ ∀ j, j < n * 6 → c[j]? = some (zCell j) := by
  obtain ⟨i0, hi0, hz0, hz1, hz2⟩ := info_parts Try.info25
  have hb' : (i0.bytes : Int) * (n : Int) ≤ 281474976710656 := by
    rw [hz2]
    omega
  have hr := run_make (P := Try.prog) w 23 25 i0 (.agg #[.int .i64 0, .bool false, .int .i64 0, .float .f64 0, .string ByteArray.empty, .slice none 0 0]) Try.underlying23 hi0 hz0 .i64 .i64 n n (by omega) (Int.le_refl _) hb' (by omega)
  simp only [Int.toNat_natCast, hz1] at hr
  refine ⟨_, hr, size_madeCells _ _, fun j hj => ?_⟩
  have h6 := Nat.mod_lt j (show 0 < 6 by omega)
  simp [madeCells, hj, Value.cells, zCell]
  rcases (show j % 6 = 0 ∨ j % 6 = 1 ∨ j % 6 = 2 ∨ j % 6 = 3 ∨ j % 6 = 4 ∨ j % 6 = 5 by omega) with h | h | h | h | h | h <;> simp [h]
/-- a value, stored into a row -/
def fill6 (w : World) (g o : Nat) (k : Int) (b : Bool) (n : Int) (f : Nat) (s : List UInt8) (B : Option Addr) (len c : Nat) : World :=
  (((((w.setCell ⟨g, o, none⟩ (.int .i64 k)).setCell ⟨g, o + 1, none⟩ (.bool b)).setCell ⟨g, o + 2, none⟩ (.int .i64 n)).setCell ⟨g, o + 3, none⟩ (.float .f64 f)).setCell ⟨g, o + 4, none⟩ (.string (st s))).setCell ⟨g, o + 5, none⟩ (.slice B len c)
theorem set_heap {w : World} {g : Nat} {Y : TypeId} {cs : Array Value} (h : w.heap[g]? = some (.cells cs Y)) (j : Nat) (u : Value) : (w.setCell ⟨g, j, none⟩ u).heap[g]? = some (.cells (cs.setIfInBounds j u) Y) := by
  simp [World.setCell, Array.getElem?_modify, h]
theorem set_past {w : World} {g i : Nat} (hi : i ≠ g) (j : Nat) (u : Value) : (w.setCell ⟨g, j, none⟩ u).heap[i]? = w.heap[i]? := Below.heap_setCell _ _ _ _ hi
theorem fill6_heap {w : World} {g i : Nat} (hi : i ≠ g) (o : Nat) (k : Int) (b : Bool) (n : Int) (f : Nat) (s : List UInt8) (B : Option Addr) (len c : Nat) : (fill6 w g o k b n f s B len c).heap[i]? = w.heap[i]? := by
  unfold fill6
  iterate 6 rw [set_past hi]
theorem fill6_size {w : World} {g o : Nat} {k : Int} {b : Bool} {n : Int} {f : Nat} {s : List UInt8} {B : Option Addr} {len c : Nat} : (fill6 w g o k b n f s B len c).heap.size = w.heap.size := by simp [fill6, World.setCell]
theorem fill6_below {w0 w : World} {g M : Nat} (h : Below M w0 w) (hM : M ≤ g) (o : Nat) (k : Int) (b : Bool) (n : Int) (f : Nat) (s : List UInt8) (B : Option Addr) (len c : Nat) : Below M w0 (fill6 w g o k b n f s B len c) :=
  (((((h.setCell (p := ⟨g, o, none⟩) hM _).setCell (p := ⟨g, o + 1, none⟩) hM _).setCell (p := ⟨g, o + 2, none⟩) hM _).setCell (p := ⟨g, o + 3, none⟩) hM _).setCell (p := ⟨g, o + 4, none⟩) hM _).setCell (p := ⟨g, o + 5, none⟩) hM _
theorem fill6_row {w : World} {g : Nat} {Y : TypeId} {cs : Array Value} (h : w.heap[g]? = some (.cells cs Y)) {o : Nat} (ho : o + 6 ≤ cs.size) (k : Int) (b : Bool) (n : Int) (f : Nat) (s : List UInt8) (B : Option Addr) (len c : Nat) :
    ∃ cs', (fill6 w g o k b n f s B len c).heap[g]? = some (.cells cs' Y) ∧ cs'.size = cs.size ∧ (∀ j, j < o ∨ o + 6 ≤ j → cs'[j]? = cs[j]?) ∧ ∀ q u, (valC k b n f s B len c)[q]? = some u → cs'[o + q]? = some u := by
  refine ⟨_, set_heap (set_heap (set_heap (set_heap (set_heap (set_heap h _ _) _ _) _ _) _ _) _ _) _ _, by simp, fun j hj => ?_, fun q u hu => ?_⟩
  · repeat (rw [Array.getElem?_setIfInBounds_ne (by omega)])
  · match q, hu with
    | 0, hu =>
      simp at hu
      subst hu
      repeat (rw [Array.getElem?_setIfInBounds_ne (by omega)])
      rw [Nat.add_zero, Array.getElem?_setIfInBounds_self_of_lt (by omega)]
    | 1, hu =>
      simp at hu
      subst hu
      repeat (rw [Array.getElem?_setIfInBounds_ne (by omega)])
      rw [Array.getElem?_setIfInBounds_self_of_lt (by simp; omega)]
    | 2, hu =>
      simp at hu
      subst hu
      repeat (rw [Array.getElem?_setIfInBounds_ne (by omega)])
      rw [Array.getElem?_setIfInBounds_self_of_lt (by simp; omega)]
    | 3, hu =>
      simp at hu
      subst hu
      repeat (rw [Array.getElem?_setIfInBounds_ne (by omega)])
      rw [Array.getElem?_setIfInBounds_self_of_lt (by simp; omega)]
    | 4, hu =>
      simp at hu
      subst hu
      repeat (rw [Array.getElem?_setIfInBounds_ne (by omega)])
      rw [Array.getElem?_setIfInBounds_self_of_lt (by simp; omega)]
    | 5, hu =>
      simp at hu
      subst hu
      rw [Array.getElem?_setIfInBounds_self_of_lt (by simp; omega)]

/-- a row of which so many values are copied -/
structure Copied (w0 w : World) (l : List Val) (i : Nat) : Prop where
  below : Below w0.heap.size w0 w
  row : ∃ cs, w.heap[w0.heap.size]? = some (.cells cs 25) ∧ cs.size = l.length * 6 ∧ (∀ j, i * 6 ≤ j → j < l.length * 6 → cs[j]? = some (zCell j)) ∧
    ∀ j x, j < i → l[j]? = some x → ∃ k b n f s B len c, HasP (fun b => w0.heap.size < b) w (valV k b n f s B len c) x ∧ ∀ q u, (valC k b n f s B len c)[q]? = some u → cs[j * 6 + q]? = some u
theorem wszL_len : ∀ l : List Val, l.length ≤ wszL l
  | [] => Nat.le_refl _
  | v :: l => by
    have := wszL_len l
    have := wsz_pos v
    simp only [List.length_cons, wszL]; omega
theorem Copied.next {w0 wr w6 : World} {l : List Val} {i : Nat} {x : Val} (h : Copied w0 wr l i) (hx : l[i]? = some x) (hb : Below wr.heap.size wr w6) {k : Int} {b : Bool} {n : Int} {f : Nat} {s : List UInt8} {B : Option Addr} {len c : Nat} (hP : HasP (fun b => wr.heap.size ≤ b) w6 (valV k b n f s B len c) x) :
    Copied w0 (fill6 w6 w0.heap.size (i * 6) k b n f s B len c) l (i + 1) := by
  obtain ⟨cs, h1, h2, h3, h4⟩ := h.row
  have hlt := (Array.getElem?_eq_some_iff.1 h1).1
  have hil : i < l.length := (List.getElem?_eq_some_iff.1 hx).1
  have h6 := (hb.block _ hlt).trans h1
  obtain ⟨cs', r1, r2, r3, r4⟩ := fill6_row h6 (o := i * 6) (by omega) k b n f s B len c
  have hoth : ∀ y, w0.heap.size < y → (fill6 w6 w0.heap.size (i * 6) k b n f s B len c).heap[y]? = w6.heap[y]? := fun y hy => fill6_heap (by omega) ..
  refine ⟨fill6_below (h.below.trans (hb.mono h.below.size)) (Nat.le_refl _) .., cs', r1, by omega, fun j hj hjl => ?_, fun j y hj hy => ?_⟩
  · rw [r3 j (.inr (by omega))]
    exact h3 j (by omega) hjl
  · by_cases e : j = i
    · subst e
      rw [hx] at hy
      cases hy
      exact ⟨k, b, n, f, s, B, len, c, hP.step (fun y hy hl => hoth y (by omega)) (fun y hy _ => by omega), r4⟩
    · obtain ⟨k2, b2, n2, f2, s2, B2, len2, c2, g1, g2⟩ := h4 j y (by omega) hy
      refine ⟨k2, b2, n2, f2, s2, B2, len2, c2, g1.step (fun y hy hl => (hoth y hy).trans (hb.block y hl)) (fun y hy _ => hy), fun q u hu => ?_⟩
      have hq : q < 6 := (List.getElem?_eq_some_iff.1 hu).1
      rw [r3 _ (.inl (by omega))]
      exact g2 q u hu
theorem Copied.done {w0 w : World} {l : List Val} (h : Copied w0 w l l.length) {M : Nat} (hM : M ≤ w0.heap.size) {w' : World} (hw : ∀ b, w0.heap.size ≤ b → b < w.heap.size → w'.heap[b]? = w.heap[b]?) {k : Int} {b : Bool} {n : Int} {f : Nat} {s : List UInt8} (hk : I64 k) (hn : I64 n) (hf : U64 f) (hs : s.length ≤ 140737488351232) (hb : l.length ≤ 140737488351232) :
    HasP (fun b => M ≤ b) w' (valV k b n f s (some ⟨w0.heap.size, 0, none⟩) l.length l.length) (.mk k b n f s l) := by
  obtain ⟨cs, h1, h2, h3, h4⟩ := h.row
  have hlt := (Array.getElem?_eq_some_iff.1 h1).1
  refine HasP.ofParts (fun i x hx => ?_) hk hn hf hs hb (Nat.le_refl _) (by unfold maxLen; omega)
  have hil : i < l.length := (List.getElem?_eq_some_iff.1 hx).1
  obtain ⟨k2, b2, n2, f2, s2, B2, len2, c2, g1, g2⟩ := h4 i x hil hx
  have hr : w'.heap[w0.heap.size]? = _ := (hw _ (Nat.le_refl _) hlt).trans h1
  have hcell : ∀ q u, (valC k2 b2 n2 f2 s2 B2 len2 c2)[q]? = some u → w'.cell? ⟨w0.heap.size, i * 6 + q, none⟩ = some u := fun q u hu => (cell_of hr _).trans (g2 q u hu)
  have ha : (⟨w0.heap.size, 0, none⟩ : Addr).add (i * 6) = ⟨w0.heap.size, i * 6, none⟩ := by cases i with | zero => rfl | succ i => simp [Addr.add]
  have e0 := hcell 0 _ rfl
  refine ⟨⟨w0.heap.size, 0, none⟩, k2, b2, n2, f2, s2, B2, len2, c2, rfl, hM, g1.step (fun y hy hl => hw y (by omega) hl) (fun y hy _ => by omega), ?_⟩
  rw [ha]
  exact ⟨cell_lt' e0, e0, hcell 1 _ rfl, hcell 2 _ rfl, hcell 3 _ rfl, hcell 4 _ rfl, hcell 5 _ rfl⟩
/-- six empty cells that may be written -/
structure Zero6 (w : World) (g o : Nat) : Prop where
  lt : g < w.heap.size
  c0 : w.cell? ⟨g, o, none⟩ = some (.int .i64 0)
  c1 : w.cell? ⟨g, o + 1, none⟩ = some (.bool false)
  c2 : w.cell? ⟨g, o + 2, none⟩ = some (.int .i64 0)
  c3 : w.cell? ⟨g, o + 3, none⟩ = some (.float .f64 0)
  c4 : w.cell? ⟨g, o + 4, none⟩ = some (.string ByteArray.empty)
  c5 : w.cell? ⟨g, o + 5, none⟩ = some (.slice none 0 0)
  fz : ∀ j, w.frozen? ⟨g, j, none⟩ = false
theorem Copied.zero {w0 wr w6 : World} {l : List Val} {i : Nat} (h : Copied w0 wr l i) (hi : i < l.length) (hb : Below wr.heap.size wr w6) : Zero6 w6 w0.heap.size (i * 6) := by
  obtain ⟨cs, h1, h2, h3, h4⟩ := h.row
  have hlt := (Array.getElem?_eq_some_iff.1 h1).1
  have h6 := (hb.block _ hlt).trans h1
  have z : ∀ q, q < 6 → w6.cell? ⟨w0.heap.size, i * 6 + q, none⟩ = some (zCell (i * 6 + q)) := fun q hq => (cell_of h6 _).trans (h3 _ (by omega) (by omega))
  have e : ∀ q, q < 6 → (i * 6 + q) % 6 = q := fun q hq => by omega
  refine ⟨(Array.getElem?_eq_some_iff.1 h6).1, ?_, ?_, ?_, ?_, ?_, ?_, fun j => frozen_of h6 j⟩
  · have := z 0 (by omega); simpa [zCell, e 0 (by omega)] using this
  · rw [z 1 (by omega)]; simp [zCell, e 1 (by omega)]
  · rw [z 2 (by omega)]; simp [zCell, e 2 (by omega)]
  · rw [z 3 (by omega)]; simp [zCell, e 3 (by omega)]
  · rw [z 4 (by omega)]; simp [zCell, e 4 (by omega)]
  · rw [z 5 (by omega)]; simp [zCell, e 5 (by omega)]
/-- the copy's row -/
def RowOf (w : World) (v : Val) (u' : Value) (w' : World) : Prop := ∃ A cap, u' = valV v.k v.b v.n v.f v.s A v.l.length cap ∧ ((A = none ∧ v.l = []) ∨ ∃ R cs, A = some ⟨R, 0, none⟩ ∧ cap = v.l.length ∧ w.heap.size ≤ R ∧ w'.heap[R]? = some (.cells cs 25) ∧ cs.size = v.l.length * 6)
/-- a row in which so many values are overwritten -/
structure Poked (w6 wr : World) (R : Nat) (i m : Nat) : Prop where
  size : wr.heap.size = w6.heap.size
  other : ∀ b, b ≠ R → wr.heap[b]? = w6.heap[b]?
  row : ∃ cs cs6, wr.heap[R]? = some (.cells cs 25) ∧ w6.heap[R]? = some (.cells cs6 25) ∧ cs.size = cs6.size ∧ cs6.size = m ∧ ∀ j, i * 6 ≤ j → cs[j]? = cs6[j]?
  os : wr.os = w6.os
  tape : wr.tape = w6.tape
  output : wr.output = w6.output
theorem Poked.start {w6 : World} {R m : Nat} {cs : Array Value} (h : w6.heap[R]? = some (.cells cs 25)) (hm : cs.size = m) : Poked w6 w6 R 0 m :=
  ⟨rfl, fun _ _ => rfl, ⟨cs, cs, h, h, rfl, hm, fun _ _ => rfl⟩, rfl, rfl, rfl⟩
theorem fill6_os {w : World} {g o : Nat} {k : Int} {b : Bool} {n : Int} {f : Nat} {s : List UInt8} {B : Option Addr} {len c : Nat} : (fill6 w g o k b n f s B len c).os = w.os ∧ (fill6 w g o k b n f s B len c).tape = w.tape ∧ (fill6 w g o k b n f s B len c).output = w.output := by
  simp [fill6, World.setCell]
theorem Poked.next {w6 wr : World} {R i m : Nat} (h : Poked w6 wr R i m) (hi : i * 6 + 6 ≤ m) (k : Int) (b : Bool) (n : Int) (f : Nat) (s : List UInt8) (B : Option Addr) (len c : Nat) : Poked w6 (fill6 wr R (i * 6) k b n f s B len c) R (i + 1) m := by
  obtain ⟨cs, cs6, h1, h2, h3, h4, h5⟩ := h.row
  obtain ⟨cs', r1, r2, r3, r4⟩ := fill6_row h1 (o := i * 6) (by omega) k b n f s B len c
  exact ⟨fill6_size.trans h.size, fun y hy => (fill6_heap hy ..).trans (h.other y hy), ⟨cs', cs6, r1, h2, by omega, h4, fun j hj => (r3 j (.inr (by omega))).trans (h5 j (by omega))⟩, fill6_os.1.trans h.os, fill6_os.2.1.trans h.tape, fill6_os.2.2.trans h.output⟩
theorem Poked.below {w6 wr w0 : World} {R i m M : Nat} (h : Poked w6 wr R i m) (hb : Below M w0 w6) (hM : M ≤ R) (hs : M ≤ w6.heap.size) : Below M w0 wr :=
  hb.trans ⟨h.os, h.tape, h.output, by rw [h.size]; exact Nat.le_refl _, fun k hk => h.other k (by omega)⟩
theorem Poked.at_ {w6 wr : World} {R i m : Nat} (h : Poked w6 wr R i m) {k : Int} {b : Bool} {n : Int} {f : Nat} {s : List UInt8} {B : Option Addr} {len c : Nat} (hv : ValAt w6 ((⟨R, 0, none⟩ : Addr).add (i * 6)) k b n f s B len c) : ValAt wr ⟨R, i * 6, none⟩ k b n f s B len c ∧ ∀ j, wr.frozen? ⟨R, j, none⟩ = false := by
  obtain ⟨cs, cs6, h1, h2, h3, h4, h5⟩ := h.row
  have ha : (⟨R, 0, none⟩ : Addr).add (i * 6) = ⟨R, i * 6, none⟩ := by cases i with | zero => rfl | succ i => simp [Addr.add]
  rw [ha] at hv
  have e : ∀ q, wr.cell? ⟨R, i * 6 + q, none⟩ = w6.cell? ⟨R, i * 6 + q, none⟩ := fun q => by rw [cell_of h1, cell_of h2, h5 _ (by omega)]
  exact ⟨⟨(Array.getElem?_eq_some_iff.1 h1).1, (e 0).trans hv.c0, (e 1).trans hv.c1, (e 2).trans hv.c2, (e 3).trans hv.c3, (e 4).trans hv.c4, (e 5).trans hv.c5⟩, fun j => frozen_of h1 j⟩
def CopyEnds (v : Val) (w : World) (e : Ending) (w' : World) : Prop := ∃ u', e = .returned u' ∧ HasP (fun b => w.heap.size ≤ b) w' u' v ∧ Below w.heap.size w w' ∧ RowOf w v u' w'
set_option maxRecDepth 8000 in
set_option maxHeartbeats 2000000 in
theorem copy_c (v : Val) : ∀ (u : Value) (w : World), Has w u v → wsz v ≤ 10000 → Calls Try.prog 28 #[u] w (CopyEnds v w) := by
  generalize hz : wsz v = z
  induction z using Nat.strongRecOn generalizing v with
  | _ z ih =>
    intro u w hv hz4
    obtain ⟨A, cap, rfl, hk, hn, hf, hs, hlb0, hl, hc, hp⟩ := hv.open
    obtain ⟨w1, hw1⟩ : ∃ w1, w1 = w.alloc (.cells #[.int .i64 v.k, .bool v.b, .int .i64 v.n, .float .f64 v.f, .string (st v.s), .slice A v.l.length cap] 25) := ⟨_, rfl⟩
    obtain ⟨w2, hw2⟩ : ∃ w2, w2 = w1.alloc (.cells #[.int .i64 0, .bool false, .int .i64 0, .float .f64 0, .string (st []), .slice none 0 0] 25) := ⟨_, rfl⟩
    have s1 : w1.heap.size = w.heap.size + 1 := hw1 ▸ alloc_grows _ _ rfl
    have s2 : w2.heap.size = w.heap.size + 1 + 1 := hw2 ▸ alloc_grows _ _ s1
    have b2 : Below w.heap.size w w2 := hw2 ▸ hw1 ▸ (below_alloc w _).alloc (by simp) _
    have z1 := Lib.hid (hw2 ▸ alloc_past _ (hw1 ▸ alloc_here w _) : w2.heap[w.heap.size]? = _)
    have z2 := Lib.hid (hw2 ▸ s1 ▸ alloc_here w1 _ : w2.heap[w.heap.size + 1]? = _)
    have hwa : (w.alloc (.cells #[.int .i64 v.k, .bool v.b, .int .i64 v.n, .float .f64 v.f, .string (st v.s), .slice A v.l.length cap] 25)).alloc (.cells #[.int .i64 0, .bool false, .int .i64 0, .float .f64 0, .string (st []), .slice none 0 0] 25) = w2 := by rw [hw2, hw1]
    clear hw1 hw2 s1
    have q1 := fun j => cell_of z1.out j
    have q2 := fun j => cell_of z2.out j
    have f2 := fun j => frozen_of z2.out j
    have l1 := (Array.getElem?_eq_some_iff.1 z1.out).1
    have l2 := (Array.getElem?_eq_some_iff.1 z2.out).1
    have y5 : w.heap.size ≤ w.heap.size + 1 := by omega
    go_enter Try.func28, Try.ntmps28
    cases A with
    | none =>
      have hl0 : v.l = [] := by
        cases h : v.l with
        | nil => rfl
        | cons x l =>
          obtain ⟨ad, _, _, _, _, _, _, _, _, h1, _⟩ := hp 0 x (by rw [h]; rfl)
          cases h1
      have fin : ∀ w', Below w.heap.size w w' → CopyEnds v w (.returned (valV v.k v.b v.n v.f v.s none v.l.length cap)) w' := fun w' h => ⟨_, rfl, HasP.mk (P := fun b => w.heap.size ≤ b) (w := w') (k := v.k) (b := v.b) (n := v.n) (f := v.f) (s := v.s) (l := v.l) (A := none) (cap := cap) (fun _ => .agg #[]) hk hn hf hs hlb0 hl hc (fun i x hx => by rw [hl0] at hx; simp at hx) (fun i hi => by rw [hl0] at hi; exact absurd hi (Nat.not_lt_zero _)) |> cast (by cases v; rfl), h, none, cap, rfl, .inl ⟨rfl, hl0⟩⟩
      clear hp z1 z2 ih
      go_wp2
      refine bodyPost_ret (v := valV v.k v.b v.n v.f v.s none v.l.length cap) (by simp only [results, Try.results28]; go_simp) rfl (fin _ ?_)
      first | exact b2 | exact (below_alloc w _).alloc (by simp) _ | (repeat (with_reducible refine back_set ?_ _ y5 _); exact b2)
    | some ad =>
      have hn6 : v.l.length ≤ 10000 := by have := wszL_len v.l; have := wsz_eq v; omega
      obtain ⟨c0, hmk, hcs, hcz⟩ := make6 v.l.length (by omega) w2
      rw [s2] at hmk
      have hC0 : Copied w2 (w2.alloc (.cells c0 25)) v.l 0 := ⟨below_alloc _ _, c0, alloc_here _ _, hcs, fun j _ hj => hcz j hj, fun j x hj => absurd hj (Nat.not_lt_zero _)⟩
      go_upto_region 3 with fail
      generalize w2.alloc (.cells c0 25) = w3 at *
      clear q1 q2 f2 l1 l2 hwa hmk hcs hcz
      have q1 : ∀ wx, Below w2.heap.size w2 wx → ∀ j, wx.cell? ⟨w.heap.size, j, none⟩ = _ := fun wx h j => cell_of ((h.block _ (Array.getElem?_eq_some_iff.1 z1.out).1).trans z1.out) j
      have q13 := q1 w3 hC0.below
      go_wp2_with fail
      go_loopw [16] (fun a16 wr => ∃ i : Nat, a16 = .int .i64 i ∧ i ≤ v.l.length ∧ Copied w2 wr v.l i) (fun a _ => v.l.length - (intOf a).toNat)
      case atStart => exact ⟨0, rfl, Nat.zero_le _, hC0⟩
      case round =>
        clear hC0 q13
        obtain ⟨i, rfl, hi, hC⟩ := hrel
        have bw := b2.trans (hC.below.mono b2.size)
        by_cases hil : i < v.l.length
        · have hil' : (i : Int) < v.l.length := by omega
          obtain ⟨ad', k, b, n, f, s, B, len, c, he, hx, hat⟩ := hp i v.l[i] (by simp)
          cases he
          have hxr := hx.keep bw
          obtain ⟨t6, t0, t1, t2, t3, t4, t5⟩ := hat.keep bw
          have hwsz := wsz_part (v := v) (x := v.l[i]) (i := i) (by simp)
          have cr := ih (wsz v.l[i]) (by omega) v.l[i] rfl _ (wr.alloc (.cells #[.int .i64 k, .bool b, .int .i64 n, .float .f64 f, .string (st s), .slice B len c] 25)) (hxr.keep (below_alloc _ _)) (by omega)
          have hxi : v.l[i]? = some v.l[i] := by simp
          have wi : IntKind.i64.wrap ((i : Int) + 1) = (i : Int) + 1 := by rw [wrap_i64]; omega
          clear hp hx hat hxr ih hwsz
          generalize v.l[i] = x at *
          have hZ : ∀ w6, Below (wr.alloc (.cells #[.int .i64 k, .bool b, .int .i64 n, .float .f64 f, .string (st s), .slice B len c] 25)).heap.size (wr.alloc (.cells #[.int .i64 k, .bool b, .int .i64 n, .float .f64 f, .string (st s), .slice B len c] 25)) w6 → Zero6 w6 (w.heap.size + 1 + 1) (i * 6) := fun w6 h => s2 ▸ hC.zero hil ((below_alloc wr _).trans (h.mono (by simp)))
          have hN : ∀ w6, Below (wr.alloc (.cells #[.int .i64 k, .bool b, .int .i64 n, .float .f64 f, .string (st s), .slice B len c] 25)).heap.size (wr.alloc (.cells #[.int .i64 k, .bool b, .int .i64 n, .float .f64 f, .string (st s), .slice B len c] 25)) w6 → ∀ k1 b1 n1 f1 s1 B1 len1 c1, HasP (fun b' => (wr.alloc (.cells #[.int .i64 k, .bool b, .int .i64 n, .float .f64 f, .string (st s), .slice B len c] 25)).heap.size ≤ b') w6 (valV k1 b1 n1 f1 s1 B1 len1 c1) x → Copied w2 (fill6 w6 (w.heap.size + 1 + 1) (i * 6) k1 b1 n1 f1 s1 B1 len1 c1) v.l (i + 1) := fun w6 h k1 b1 n1 f1 s1 B1 len1 c1 hP => s2 ▸ hC.next hxi ((below_alloc wr _).trans (h.mono (by simp))) (hP.step (fun _ _ _ => rfl) (fun y hy _ => by simp at hy; omega))
          unfold fill6 at hN
          clear hC hxi
          go_wp2_with ((with_reducible refine cr.mono ?_); rintro e w6 ⟨u', rfl, hP, hb6, _⟩; obtain ⟨A6, cap6, hu6, _⟩ := hP.has.open; subst hu6; obtain ⟨g6, g0, g1, g2, g3, g4, g5, gf⟩ := hZ w6 hb6)
          exact ⟨⟨i + 1, rfl, hil, hN w6 hb6 _ _ _ _ _ _ _ _ hP⟩, by simp [intOf]; omega⟩
        · have hil' : ¬ (i : Int) < v.l.length := by omega
          have hie : i = v.l.length := by omega
          subst hie
          have e1 := (hC.below.block _ (Array.getElem?_eq_some_iff.1 z1.out).1).trans z1.out
          have e2 := (hC.below.block _ (Array.getElem?_eq_some_iff.1 z2.out).1).trans z2.out
          have q1 := fun j => cell_of e1 j
          have g1 := fun j => frozen_of e1 j
          have l1 := (Array.getElem?_eq_some_iff.1 e1).1
          have q2 := fun j => cell_of e2 j
          have g2 := fun j => frozen_of e2 j
          have l2 := (Array.getElem?_eq_some_iff.1 e2).1
          have y6 : w.heap.size < w2.heap.size := by omega
          have y7 : w.heap.size + 1 < w2.heap.size := by omega
          have y8 : w.heap.size ≤ w.heap.size := Nat.le_refl _
          have fin : ∀ w', Below w.heap.size w w' → Above w2.heap.size wr w' → CopyEnds v w (.returned (valV v.k v.b v.n v.f v.s (some ⟨w.heap.size + 1 + 1, 0, none⟩) v.l.length v.l.length)) w' := fun w' h h' => by
            have hR : RowOf w v (valV v.k v.b v.n v.f v.s (some ⟨w.heap.size + 1 + 1, 0, none⟩) v.l.length v.l.length) w' := by
              obtain ⟨cs, r1, r2, _⟩ := hC.row
              have r3 := (h'.block _ (Nat.le_refl _) (Array.getElem?_eq_some_iff.1 r1).1).trans r1
              rw [s2] at r3
              exact ⟨_, _, rfl, .inr ⟨_, cs, rfl, rfl, by omega, r3, r2⟩⟩
            refine ⟨_, rfl, ?_, h, hR⟩
            have := hC.done (M := w.heap.size) (by omega) h'.block (k := v.k) (b := v.b) (n := v.n) (f := v.f) (s := v.s) hk hn hf hs hlb0
            rw [s2] at this
            cases v
            exact this
          clear e1 e2 z1 z2 hp ih hC
          go_wp2_with fail
          refine bodyPost_ret (v := valV v.k v.b v.n v.f v.s (some ⟨w.heap.size + 1 + 1, 0, none⟩) v.l.length v.l.length) (by simp only [results, Try.results28]; go_simp) rfl (fin _ ?_ ?_)
          · repeat (with_reducible refine back_set ?_ _ y5 _)
            (with_reducible refine back_set ?_ _ y8 _)
            exact bw
          · repeat (with_reducible refine above_set ?_ _ y7 _)
            (with_reducible refine above_set ?_ _ y6 _)
            exact Above.refl _ _
end Go.Proofs.Ytkbacjlnfmibaaa
