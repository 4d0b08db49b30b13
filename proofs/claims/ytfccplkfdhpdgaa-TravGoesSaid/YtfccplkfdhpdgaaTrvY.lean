
/-
  TravGoes' walk.
-/
import Derived.Test.YtfccplkfdhpdgaaTrvX
import Derived.Test.YtfccplkfdhpdgaaApp
import Derived.Test.YtfccplkfdhpdgaaWgh
set_option linter.unusedSimpArgs false
set_option linter.unusedVariables false
namespace Go.Proofs.Ytfccplkfdhpdgaa
open Go.RowKit

/-- a traverser that went on -/
def GoAt (w0 : World) (path' : List Val) (k' : Int) (b' : Bool) (n' : Int) (f' : Nat) (s' : List UInt8) (B' : Option Addr) (len' c' : Nat) (T : Option Addr) (tl tc : Nat) (q : Int) : Fact := fun u w => ∃ P' pl' pc', u = travV k' b' n' f' s' B' len' c' P' pl' pc' T tl tc q ∧ Way w0 path' P' pl' pc' w
theorem GoAt.steady (w0 : World) (path' : List Val) (k' : Int) (b' : Bool) (n' : Int) (f' : Nat) (s' : List UInt8) (B' : Option Addr) (len' c' : Nat) (T : Option Addr) (tl tc : Nat) (q : Int) : Steady (GoAt w0 path' k' b' n' f' s' B' len' c' T tl tc q) :=
  ⟨fun u w w' ⟨P', pl', pc', h1, h2⟩ hb => ⟨P', pl', pc', h1, h2.keep hb⟩⟩
abbrev zero9 : Array Value := #[.int .i64 0, .bool false, .int .i64 0, .float .f64 0, .string (st []), .slice none 0 0, .slice none 0 0, .slice none 0 0, .int .i64 0]
/-- a traverser, stored into a variable -/
def fill9 (w : World) (g : Nat) (k : Int) (b : Bool) (n : Int) (f : Nat) (s : List UInt8) (B : Option Addr) (len c : Nat) (P : Option Addr) (pl pc : Nat) (T : Option Addr) (tl tc : Nat) (q : Int) : World :=
  ((((((((w.setCell ⟨g, 0, none⟩ (.int .i64 k)).setCell ⟨g, 1, none⟩ (.bool b)).setCell ⟨g, 2, none⟩ (.int .i64 n)).setCell ⟨g, 3, none⟩ (.float .f64 f)).setCell ⟨g, 4, none⟩ (.string (st s))).setCell ⟨g, 5, none⟩ (.slice B len c)).setCell ⟨g, 6, none⟩ (.slice P pl pc)).setCell ⟨g, 7, none⟩ (.slice T tl tc)).setCell ⟨g, 8, none⟩ (.int .i64 q)
theorem fill9_box {w : World} {g : Nat} {Y : TypeId} (h : w.heap[g]? = some (.cells zero9 Y)) (k : Int) (b : Bool) (n : Int) (f : Nat) (s : List UInt8) (B : Option Addr) (len c : Nat) (P : Option Addr) (pl pc : Nat) (T : Option Addr) (tl tc : Nat) (q : Int) :
    TBox (fill9 w g k b n f s B len c P pl pc T tl tc q) g k b n f s B len c P pl pc T tl tc q := by
  have l := (Array.getElem?_eq_some_iff.1 h).1
  have q := fun j => cell_of h j
  clear h
  constructor <;> simp [fill9, go_sem, l, q]
theorem fill9_heap {w : World} {g i : Nat} (hi : i ≠ g) (k : Int) (b : Bool) (n : Int) (f : Nat) (s : List UInt8) (B : Option Addr) (len c : Nat) (P : Option Addr) (pl pc : Nat) (T : Option Addr) (tl tc : Nat) (q : Int) :
    (fill9 w g k b n f s B len c P pl pc T tl tc q).heap[i]? = w.heap[i]? := by
  unfold fill9
  iterate 9 rw [Below.heap_setCell _ _ _ _ (by exact hi)]
theorem fill9_below {w0 w : World} {g M : Nat} (h : Below M w0 w) (hM : M ≤ g) (k : Int) (b : Bool) (n : Int) (f : Nat) (s : List UInt8) (B : Option Addr) (len c : Nat) (P : Option Addr) (pl pc : Nat) (T : Option Addr) (tl tc : Nat) (q : Int) :
    Below M w0 (fill9 w g k b n f s B len c P pl pc T tl tc q) :=
  ((((((((h.setCell (p := ⟨g, 0, none⟩) hM _).setCell (p := ⟨g, 1, none⟩) hM _).setCell (p := ⟨g, 2, none⟩) hM _).setCell (p := ⟨g, 3, none⟩) hM _).setCell (p := ⟨g, 4, none⟩) hM _).setCell (p := ⟨g, 5, none⟩) hM _).setCell (p := ⟨g, 6, none⟩) hM _).setCell (p := ⟨g, 7, none⟩) hM _).setCell (p := ⟨g, 8, none⟩) hM _
theorem TBox.other {w w' : World} {g : Nat} {k : Int} {b : Bool} {n : Int} {f : Nat} {s : List UInt8} {B : Option Addr} {len c : Nat} {P : Option Addr} {pl pc : Nat} {T : Option Addr} {tl tc : Nat} {q : Int} (h : TBox w g k b n f s B len c P pl pc T tl tc q) (hs : w.heap.size ≤ w'.heap.size) (he : w'.heap[g]? = w.heap[g]?) : TBox w' g k b n f s B len c P pl pc T tl tc q := by
  have e : ∀ j, w'.cell? ⟨g, j, none⟩ = w.cell? ⟨g, j, none⟩ := fun j => by simp only [World.cell?, he]
  exact ⟨Nat.lt_of_lt_of_le h.lt hs, (e _).trans h.c0, (e _).trans h.c1, (e _).trans h.c2, (e _).trans h.c3, (e _).trans h.c4, (e _).trans h.c5, (e _).trans h.c6, (e _).trans h.c7, (e _).trans h.c8⟩
theorem fill9_other {w : World} {g : Nat} {Y T0 : TypeId} {cs : Array Value} (h : w.heap[g]? = some (.cells cs Y)) (hY : Y ≠ T0) (k : Int) (b : Bool) (n : Int) (f : Nat) (s : List UInt8) (B : Option Addr) (len c : Nat) (P : Option Addr) (pl pc : Nat) (T : Option Addr) (tl tc : Nat) (q : Int) :
    Other T0 w (fill9 w g k b n f s B len c P pl pc T tl tc q) :=
  ⟨(fill9_below (M := 0) ((Below.refl w.heap.size w).mono (Nat.zero_le _)) (Nat.zero_le _) ..).size, fun i cs' hi => fill9_heap (fun e => by subst e; rw [h] at hi; cases hi; exact hY rfl) ..⟩
/-- a row of one's own of these cells -/
def OwnF (base : Nat) (n : Nat) (xs : List Value) : Fact := fun u w => w.ownsRow base 31 6 u n xs
theorem OwnF.steady (base : Nat) (n : Nat) (xs : List Value) : Steady (OwnF base n xs) := ⟨fun u w w' h hb => own_below h hb⟩
theorem TBox.ofHeap {w : World} {g : Nat} {Y : TypeId} {k : Int} {b : Bool} {n : Int} {f : Nat} {s : List UInt8} {B : Option Addr} {len c : Nat} {P : Option Addr} {pl pc : Nat} {T : Option Addr} {tl tc : Nat} {q : Int} (h : w.heap[g]? = some (.cells #[.int .i64 k, .bool b, .int .i64 n, .float .f64 f, .string (st s), .slice B len c, .slice P pl pc, .slice T tl tc, .int .i64 q] Y)) : TBox w g k b n f s B len c P pl pc T tl tc q :=
  ⟨(Array.getElem?_eq_some_iff.1 h).1, cell_of h 0, cell_of h 1, cell_of h 2, cell_of h 3, cell_of h 4, cell_of h 5, cell_of h 6, cell_of h 7, cell_of h 8⟩
/-- .. whose path is stored anew -/
theorem TBox.path {w : World} {g : Nat} {k : Int} {b : Bool} {n : Int} {f : Nat} {s : List UInt8} {B : Option Addr} {len c : Nat} {P : Option Addr} {pl pc : Nat} {T : Option Addr} {tl tc : Nat} {q : Int} (h : TBox w g k b n f s B len c P pl pc T tl tc q) (P' : Option Addr) (pl' pc' : Nat) : TBox (w.setCell ⟨g, 6, none⟩ (.slice P' pl' pc')) g k b n f s B len c P' pl' pc' T tl tc q := by
  obtain ⟨x, x0, x1, x2, x3, x4, x5, x6, x7, x8⟩ := h
  constructor <;> simp [go_sem, *]
theorem set_other {w : World} {g : Nat} {Y T0 : TypeId} {cs : Array Value} (h : w.heap[g]? = some (.cells cs Y)) (hY : Y ≠ T0) (j : Nat) (u : Value) : Other T0 w (w.setCell ⟨g, j, none⟩ u) :=
  ⟨by simp [World.setCell], fun i cs' hi => Below.heap_setCell _ _ _ _ (fun e => by subst e; rw [h] at hi; cases hi; exact hY rfl)⟩
theorem set_kind {w : World} {g : Nat} {Y : TypeId} {cs : Array Value} (h : w.heap[g]? = some (.cells cs Y)) (j : Nat) (u : Value) : ∃ cs', (w.setCell ⟨g, j, none⟩ u).heap[g]? = some (.cells cs' Y) := by
  refine ⟨cs.setIfInBounds j u, ?_⟩
  simp [World.setCell, Array.getElem?_modify, h]
theorem fill9_kind {w : World} {g : Nat} {Y : TypeId} (h : ∃ cs, w.heap[g]? = some (.cells cs Y)) (k : Int) (b : Bool) (n : Int) (f : Nat) (s : List UInt8) (B : Option Addr) (len c : Nat) (P : Option Addr) (pl pc : Nat) (T : Option Addr) (tl tc : Nat) (q : Int) :
    ∃ cs, (fill9 w g k b n f s B len c P pl pc T tl tc q).heap[g]? = some (.cells cs Y) := by
  have st : ∀ (w : World) j u, (∃ cs, w.heap[g]? = some (.cells cs Y)) → ∃ cs, (w.setCell ⟨g, j, none⟩ u).heap[g]? = some (.cells cs Y) := fun w j u ⟨cs, h⟩ => set_kind h j u
  exact st _ _ _ (st _ _ _ (st _ _ _ (st _ _ _ (st _ _ _ (st _ _ _ (st _ _ _ (st _ _ _ (st _ _ _ h))))))))
def RowsF (ts : List TravD) (n : Nat) : Fact := fun u w => ∃ A c, u = .slice A n c ∧ TParts w A ts
theorem RowsF.steady (ts : List TravD) (n : Nat) : Steady (RowsF ts n) := ⟨fun u w w' ⟨A, c, h1, h2⟩ hb => ⟨A, c, h1, h2.keep hb⟩⟩
def NewF (k' : Int) (b' : Bool) (n' : Int) (f' : Nat) (s' : List UInt8) (B' : Option Addr) (len' c' : Nat) (t : TravD) : Fact := fun u w => ∃ P, u = travV k' b' n' f' s' B' len' c' P 1 1 none 0 0 1 ∧ HasT w k' b' n' f' s' B' len' c' P 1 1 none 0 0 1 t
theorem NewF.steady (k' : Int) (b' : Bool) (n' : Int) (f' : Nat) (s' : List UInt8) (B' : Option Addr) (len' c' : Nat) (t : TravD) : Steady (NewF k' b' n' f' s' B' len' c' t) := ⟨fun u w w' ⟨P, h1, h2⟩ hb => ⟨P, h1, h2.keep hb⟩⟩
def PartF (v : Val) : Fact := fun u w => ∃ A, u = .slice A 1 1 ∧ Parts w A [v]
theorem PartF.steady (v : Val) : Steady (PartF v) := ⟨fun u w w' ⟨A, h1, h2⟩ hb => ⟨A, h1, fun i x hx => by
  obtain ⟨ad, k, b, n, f, s, B, len, c, e, hv, hat⟩ := h2 i x hx
  exact ⟨ad, k, b, n, f, s, B, len, c, e, hv.keep hb, hat.keep hb⟩⟩⟩
theorem tparts1 {w : World} {k : Int} {b : Bool} {n : Int} {f : Nat} {s : List UInt8} {B : Option Addr} {len c : Nat} {P : Option Addr} {pl pc : Nat} {T : Option Addr} {tl tc : Nat} {q : Int} {t : TravD} (h : HasT w k b n f s B len c P pl pc T tl tc q t) :
    TParts (w.alloc (.cells (travC k b n f s B len c P pl pc T tl tc q).toArray 34)) (some ⟨w.heap.size, 0, none⟩) [t] := by
  have hb := below_alloc w (.cells (travC k b n f s B len c P pl pc T tl tc q).toArray 34)
  have own : (w.alloc (.cells (travC k b n f s B len c P pl pc T tl tc q).toArray 34)).ownsRow w.heap.size 34 9 (.slice (some ⟨w.heap.size, 0, none⟩) 1 1) 1 (travC k b n f s B len c P pl pc T tl tc q) :=
    ⟨rfl, .inr ⟨w.heap.size, 1, _, rfl, Nat.le_refl _, by show (w.heap.push _)[w.heap.size]? = _; simp; rfl, Nat.le_refl _, by unfold maxLen; omega, rfl, rfl⟩⟩
  obtain ⟨A, c, he, hp, _⟩ := TParts.ofRow (ys := [t]) own ((TRow.nil _).snoc (h.keep hb))
  have he : (Value.slice (some ⟨w.heap.size, 0, none⟩) 1 1) = .slice A 1 c := he
  cases he
  exact hp
theorem tparts2 {w : World} {k : Int} {b : Bool} {n : Int} {f : Nat} {s : List UInt8} {B : Option Addr} {len c : Nat} {P : Option Addr} {pl pc : Nat} {T : Option Addr} {tl tc : Nat} {q : Int} {t : TravD} (h : HasT w k b n f s B len c P pl pc T tl tc q t)
    {k' : Int} {b' : Bool} {n' : Int} {f' : Nat} {s' : List UInt8} {B' : Option Addr} {len' c' : Nat} {P' : Option Addr} {pl' pc' : Nat} {T' : Option Addr} {tl' tc' : Nat} {q' : Int} {t' : TravD} (h' : HasT w k' b' n' f' s' B' len' c' P' pl' pc' T' tl' tc' q' t') :
    TParts (w.alloc (.cells (travC k b n f s B len c P pl pc T tl tc q ++ travC k' b' n' f' s' B' len' c' P' pl' pc' T' tl' tc' q').toArray 34)) (some ⟨w.heap.size, 0, none⟩) [t, t'] := by
  have hb := below_alloc w (.cells (travC k b n f s B len c P pl pc T tl tc q ++ travC k' b' n' f' s' B' len' c' P' pl' pc' T' tl' tc' q').toArray 34)
  have own : (w.alloc (.cells (travC k b n f s B len c P pl pc T tl tc q ++ travC k' b' n' f' s' B' len' c' P' pl' pc' T' tl' tc' q').toArray 34)).ownsRow w.heap.size 34 9 (.slice (some ⟨w.heap.size, 0, none⟩) 2 2) 2 (travC k b n f s B len c P pl pc T tl tc q ++ travC k' b' n' f' s' B' len' c' P' pl' pc' T' tl' tc' q') :=
    ⟨rfl, .inr ⟨w.heap.size, 2, _, rfl, Nat.le_refl _, by show (w.heap.push _)[w.heap.size]? = _; simp; rfl, Nat.le_refl _, by unfold maxLen; omega, rfl, rfl⟩⟩
  obtain ⟨A, c, he, hp, _⟩ := TParts.ofRow (ys := [t, t']) own (((TRow.nil _).snoc (h.keep hb)).snoc (h'.keep hb))
  have he : (Value.slice (some ⟨w.heap.size, 0, none⟩) 2 2) = .slice A 2 c := he
  cases he
  exact hp
theorem parts1 {w : World} {k : Int} {b : Bool} {n : Int} {f : Nat} {s : List UInt8} {B : Option Addr} {len c : Nat} {v : Val} (h : Has w (valV k b n f s B len c) v) :
    Parts (w.alloc (.cells #[.int .i64 k, .bool b, .int .i64 n, .float .f64 f, .string (st s), .slice B len c] 31)) (some ⟨w.heap.size, 0, none⟩) [v] := by
  have hb := below_alloc w (.cells #[.int .i64 k, .bool b, .int .i64 n, .float .f64 f, .string (st s), .slice B len c] 31)
  have hx := Box.new w k b n f s B len c 31
  intro i x hi
  match i, hi with
  | 0, hi =>
    simp at hi
    subst hi
    obtain ⟨x6, x0, x1, x2, x3, x4, x5⟩ := hx
    exact ⟨⟨w.heap.size, 0, none⟩, k, b, n, f, s, B, len, c, rfl, h.keep hb, ⟨x6, x0, x1, x2, x3, x4, x5⟩⟩
  | i + 1, hi => simp at hi
theorem heavy_some (v : Val) : ∃ m : Nat, ∀ (u : Value) (w : World), Has w u v → Calls Try.prog 18 #[u, .int .i64 100] w fun e w' => e = .returned (.int .i64 m) ∧ Below w.heap.size w w' :=
  ⟨min (wsz v) (100 + 1), fun u w h => weighN_c v u w 100 h (by omega)⟩
set_option maxRecDepth 30000 in
set_option maxHeartbeats 4000000 in
theorem travGoes_walk (k : Int) (b : Bool) (n : Int) (f : Nat) (s : List UInt8) (B : Option Addr) (len c : Nat) (P : Option Addr) (pl pc : Nat) (T : Option Addr) (tl tc : Nat) (q : Int) (t : TravD) (k' : Int) (b' : Bool) (n' : Int) (f' : Nat) (s' : List UInt8) (B' : Option Addr) (len' c' : Nat) (v : Val) (path : Bool) (w : World)
    (ht : HasT w k b n f s B len c P pl pc T tl tc q t) (hv : Has w (valV k' b' n' f' s' B' len' c') v) :
    Calls Try.prog 5 #[travV k b n f s B len c P pl pc T tl tc q, valV k' b' n' f' s' B' len' c', .bool path] w fun e w' => e = .returned (.bool true) ∧ Below w.heap.size w w' := by
  obtain ⟨w1, hw1⟩ : ∃ w1, w1 = w.alloc (.cells #[.int .i64 k, .bool b, .int .i64 n, .float .f64 f, .string (st s), .slice B len c, .slice P pl pc, .slice T tl tc, .int .i64 q] 34) := ⟨_, rfl⟩
  obtain ⟨w2, hw2⟩ : ∃ w2, w2 = w1.alloc (.cells #[.int .i64 k', .bool b', .int .i64 n', .float .f64 f', .string (st s'), .slice B' len' c'] 31) := ⟨_, rfl⟩
  have s1 : w1.heap.size = w.heap.size + 1 := hw1 ▸ alloc_grows _ _ rfl
  have s2 : w2.heap.size = w.heap.size + 1 + 1 := hw2 ▸ alloc_grows _ _ s1
  have b2 : Below w.heap.size w w2 := hw2 ▸ hw1 ▸ (below_alloc w _).alloc (by simp) _
  have z1 : w2.heap[w.heap.size + 1]? = _ := hw2 ▸ s1 ▸ alloc_here w1 _
  have z0 : w2.heap[w.heap.size]? = _ := hw2 ▸ alloc_past _ (hw1 ▸ alloc_here w _)
  have hw : (w.alloc (.cells #[.int .i64 k, .bool b, .int .i64 n, .float .f64 f, .string (st s), .slice B len c, .slice P pl pc, .slice T tl tc, .int .i64 q] 34)).alloc (.cells #[.int .i64 k', .bool b', .int .i64 n', .float .f64 f', .string (st s'), .slice B' len' c'] 31) = w2 := by rw [hw2, hw1]
  have c1 := cut_one k b n f s B len c P pl pc T tl tc q t w2 (ht.keep b2)
  rw [s2] at c1
  clear hw1 hw2 ht
  have q0 := fun j => cell_of z0 j
  have l0 := (Array.getElem?_eq_some_iff.1 z0).1
  clear z0
  have z1 := Lib.hid z1
  go_enter Try.func5, Try.ntmps5
  go_upto_region 2 with ((with_reducible refine c1.mono ?_); rintro e w3 ⟨A, capA, ys, rfl, hp, hyc, hcm, h12, hsm, hb3⟩)
  rw [← s2] at hb3
  have B3 : Below w.heap.size w w3 := b2.trans (hb3.mono b2.size)
  have hv3 := hv.keep B3
  have z1 := Lib.hid ((hb3.block _ (Array.getElem?_eq_some_iff.1 z1.out).1).trans z1.out)
  clear c1 hb3 hw hv q0 l0
  have q1 := fun j => cell_of z1.out j
  have l1 := (Array.getElem?_eq_some_iff.1 z1.out).1
  have aw := fun w => awake_c w
  cases ys with
  | nil =>
    clear q1
    go_wp2_with (first | ((with_reducible refine (awake_c _).mono ?_); rintro e w3 ⟨rfl, hb3⟩))
    go_ret
    exact ⟨rfl, B3.trans (hb3.mono B3.size)⟩
  | cons y ys =>
    obtain ⟨hn, hhn⟩ := heavy_some v
    have ch := hhn _ _ hv3
    clear hhn
    have hne : ((ys.length : Int) + 1 == 0) = false := by simp; omega
    have hpos : 0 < (ys.length : Int) + 1 := by omega
    by_cases hr : 100 < hn
    · have hr' : (100 : Int) < hn := by omega
      go_wp2_with (first | ((with_reducible refine ch.mono ?_); rintro e w2 ⟨rfl, hb2⟩; (first | ((with_reducible obtain ⟨p, hw''⟩ := In.of2 p hb2); subst hw'') | (obtain ⟨p, hw''⟩ := In.of hb2; subst hw''))) | ((with_reducible refine (aw _).mono ?_); rintro e w3 ⟨rfl, hb3⟩; (first | ((with_reducible obtain ⟨p, hw''⟩ := In.of2 p hb3); subst hw'') | (obtain ⟨p, hw''⟩ := In.of hb3; subst hw''))))
      go_ret
      exact ⟨rfl, p.back B3⟩
    · have hr' : ¬ (100 : Int) < hn := by omega
      obtain ⟨ad, k, b, n, f, s, B, len, c, P, pl, pc, T, tl, tc, q, rfl, ht, hat⟩ := hp 0 y rfl
      have ha : ad.add (0 * 9) = ad := by simp [Addr.add]
      rw [ha] at hat
      have hsy := hsm y (by simp)
      have hp4 := hsy.path
      have hq1 := hsy.lo
      have hq4 := hsy.hi
      have ha2 : ∀ p : In w3, TravAt p.w ad k b n f s B len c P pl pc T tl tc q := fun p => hat.keep p.h
      clear hp hsm ha hsy hcm hyc hat
      go_upto_region 4 with (first | ((with_reducible refine ch.mono ?_); rintro e w2 ⟨rfl, hb2⟩; (first | ((with_reducible obtain ⟨p, hw''⟩ := In.of2 p hb2); subst hw'') | (obtain ⟨p, hw''⟩ := In.of hb2; subst hw''))))
      have h4 := ha2 p
      have B4 := p.back B3
      have ht4 := ht.keep p.h
      have hv4 := hv3.keep p.h
      have z1 := Lib.hid ((p.h.block _ (Array.getElem?_eq_some_iff.1 z1.out).1).trans z1.out)
      clear ha2 ht hv3 q1 l1 ch aw hr hr' hne hpos
      generalize p.w = w4 at *
      clear p
      obtain ⟨t9, t0, t1, t2, t3, t4, t5, t6, t7, t8⟩ := h4
      obtain ⟨w5, hw5⟩ : ∃ w5, w5 = w4.alloc (.cells #[.int .i64 k, .bool b, .int .i64 n, .float .f64 f, .string (st s), .slice B len c, .slice P pl pc, .slice T tl tc, .int .i64 q] 34) := ⟨_, rfl⟩
      have z8 := Lib.hid (hw5 ▸ alloc_here w4 _ : w5.heap[w4.heap.size]? = _)
      have z1 := Lib.hid (hw5 ▸ alloc_past _ z1.out : w5.heap[w.heap.size + 1]? = _)
      have k5 : Below w4.heap.size w4 w5 := hw5 ▸ below_alloc w4 _
      have B5 := B4.trans (k5.mono B4.size)
      have ht5 := ht4.keep k5
      have hv5 := hv4.keep k5
      have s5 : w5.heap.size = w4.heap.size + 1 := hw5 ▸ alloc_grows _ _ rfl
      generalize hb8 : w4.heap.size = b8 at *
      have hwa : w4.alloc (.cells #[.int .i64 k, .bool b, .int .i64 n, .float .f64 f, .string (st s), .slice B len c, .slice P pl pc, .slice T tl tc, .int .i64 q] 34) = w5 := hw5.symm
      clear hw5
      go_upto_region 5 with fail
      clear t0 t1 t2 t3 t4 t5 t6 t7 t8 t9 hwa ht4 hv4
      have q1 : ∀ (p : In w5) j, p.w.cell? ⟨w.heap.size + 1, j, none⟩ = _ := fun p j => cell_of ((p.h.block _ (Array.getElem?_eq_some_iff.1 z1.out).1).trans z1.out) j
      have q8 : ∀ (p : In w5) j, p.w.cell? ⟨b8, j, none⟩ = _ := fun p j => cell_of ((p.h.block _ (Array.getElem?_eq_some_iff.1 z8.out).1).trans z8.out) j
      have cg := fun p : In w5 => go_c k b n f s B len c P pl pc T tl tc q y k' b' n' f' s' B' len' c' v path w5 p.w p.h ht5 hv5 hp4
      have cg7 := fun p : In w5 => go_c k b n f s B len c P pl pc T tl tc q y 2 false 7 0 [] none 0 0 (oneV 7) path w5 p.w p.h ht5 (oneV_has _ 7 ⟨by omega, by omega⟩) hp4
      obtain ⟨PA, hPA⟩ : ∃ PA, PA = (if path then y.path ++ [v] else []) := ⟨_, rfl⟩
      obtain ⟨PB, hPB⟩ : ∃ PB, PB = (if path then y.path ++ [oneV 7] else []) := ⟨_, rfl⟩
      rw [← hPA] at cg
      rw [← hPB] at cg7
      have hPA' := Lib.hid hPA
      have hPB' := Lib.hid hPB
      clear hPA hPB
      (refine wp_region_rel_at (10) [31, 35, 9, 10] [9, 10] (by kernel_rfl) (by kernel_rfl) (by kernel_rfl) ?_; (simp only [List.take_succ_cons, List.take_zero, List.drop_succ_cons, List.drop_zero]))
      ((with_reducible refine wpRel_none (by kernel_rfl) (by kernel_rfl) ?_); intro K hK; go_simp; first | (with_reducible refine hK _ ?_; clear hK K) | (apply Exists.intro; (with_reducible refine ⟨fun _ => ⟨?_, _, rfl⟩, hK _ ?_⟩); (· exact rfl); clear hK K) | (apply Exists.intro; (with_reducible refine ⟨fun _ => ?_, hK _ ?_⟩); (· (with_reducible (fail))); clear hK K))
      ((with_reducible refine wpRel_none (by kernel_rfl) (by kernel_rfl) ?_); intro K hK; go_simp; first | (with_reducible refine hK _ ?_; clear hK K) | (apply Exists.intro; (with_reducible refine ⟨fun _ => ⟨?_, _, rfl⟩, hK _ ?_⟩); (· exact rfl); clear hK K) | (apply Exists.intro; (with_reducible refine ⟨fun _ => ?_, hK _ ?_⟩); (· (with_reducible (fail))); clear hK K))
      ((with_reducible refine wpRel_none (by kernel_rfl) (by kernel_rfl) ?_); intro K hK; go_simp; first | (with_reducible refine hK _ ?_; clear hK K) | (apply Exists.intro; (with_reducible refine ⟨fun _ => ⟨?_, _, rfl⟩, hK _ ?_⟩); (· exact rfl); clear hK K) | (apply Exists.intro; (with_reducible refine ⟨fun _ => ?_, hK _ ?_⟩); (· (with_reducible (fail))); clear hK K))
      (with_reducible refine wpRel_fact [] (31) ((GoAt w5 PA k' b' n' f' s' B' len' c' T tl tc q)) (by kernel_rfl) rfl rfl ((GoAt.steady _ _ _ _ _ _ _ _ _ _ _ _ _ _)) (by first | exact rfl | go_simp) (fun p => ?_) ?_)
      · (try simp only [pickR, pickR_nil, fillR, List.contains_cons, List.contains_nil, Nat.reduceBEq, Bool.or_false, Bool.or_true, Bool.true_or, Bool.false_or, if_true, if_false, Bool.false_eq_true])
        go_wp2_with ((with_reducible refine (cg _).mono ?_); rintro e w' ⟨P', pl', pc', rfl, hT, hb⟩)
        exact ⟨fun h => absurd h (by decide), rfl, rfl, hb, ⟨P', pl', pc', rfl, hT⟩⟩
      ((with_reducible refine wpRel_none (by kernel_rfl) (by kernel_rfl) ?_); intro K hK; go_simp; first | (with_reducible refine hK _ ?_; clear hK K) | (apply Exists.intro; (with_reducible refine ⟨fun _ => ⟨?_, _, rfl⟩, hK _ ?_⟩); (· exact rfl); clear hK K) | (apply Exists.intro; (with_reducible refine ⟨fun _ => ?_, hK _ ?_⟩); (· (with_reducible (fail))); clear hK K))
      ((with_reducible refine wpRel_none (by kernel_rfl) (by kernel_rfl) ?_); intro K hK; go_simp; first | (with_reducible refine hK _ ?_; clear hK K) | (apply Exists.intro; (with_reducible refine ⟨fun _ => ⟨?_, _, rfl⟩, hK _ ?_⟩); (· exact rfl); clear hK K) | (apply Exists.intro; (with_reducible refine ⟨fun _ => ?_, hK _ ?_⟩); (· (with_reducible ((refine (one_c 7 _).mono ?_); rintro e w5 ⟨rfl, hb⟩; exact ⟨rfl, hb⟩))); clear hK K))
      ((with_reducible refine wpRel_none (by kernel_rfl) (by kernel_rfl) ?_); intro K hK; go_simp; first | (with_reducible refine hK _ ?_; clear hK K) | (apply Exists.intro; (with_reducible refine ⟨fun _ => ⟨?_, _, rfl⟩, hK _ ?_⟩); (· exact rfl); clear hK K) | (apply Exists.intro; (with_reducible refine ⟨fun _ => ?_, hK _ ?_⟩); (· (with_reducible (fail))); clear hK K))
      (with_reducible refine wpRel_fact [] (35) ((GoAt w5 PB 2 false 7 0 [] none 0 0 T tl tc q)) (by kernel_rfl) rfl rfl ((GoAt.steady _ _ _ _ _ _ _ _ _ _ _ _ _ _)) (by first | exact rfl | go_simp) (fun p => ?_) ?_)
      · (try simp only [pickR, pickR_nil, fillR, List.contains_cons, List.contains_nil, Nat.reduceBEq, Bool.or_false, Bool.or_true, Bool.true_or, Bool.false_or, if_true, if_false, Bool.false_eq_true])
        go_wp2_with ((with_reducible refine (cg7 _).mono ?_); rintro e w' ⟨P', pl', pc', rfl, hT, hb⟩)
        exact ⟨fun h => absurd h (by decide), rfl, rfl, hb, ⟨P', pl', pc', rfl, hT⟩⟩
      ((with_reducible refine wpRel_fact [] (9) (VarAt (w5.heap.size) (#[.int .i64 0, .bool false, .int .i64 0, .float .f64 0, .string (st []), .slice none 0 0, .slice none 0 0, .slice none 0 0, .int .i64 0]) (34)) (by kernel_rfl) rfl rfl (VarAt.steady _ _ _) (by first | exact rfl | go_simp) ?_ ?_); (· intro p; rw [pickR_nil]; (simp only [fillR]); go_wp2_with fail; exact var_post p.h.size rfl rfl))
      ((with_reducible refine wpRel_fact [] (10) (VarAt (w5.heap.size) (#[.int .i64 0, .bool false, .int .i64 0, .float .f64 0, .string (st []), .slice none 0 0, .slice none 0 0, .slice none 0 0, .int .i64 0]) (34)) (by kernel_rfl) rfl rfl (VarAt.steady _ _ _) (by first | exact rfl | go_simp) ?_ ?_); (· intro p; rw [pickR_nil]; (simp only [fillR]); go_wp2_with fail; exact var_post p.h.size rfl rfl))
      ((with_reducible refine wpRel_nil ?_); intro p; (simp only [fillR]))
      rintro u10 ⟨b10, h10, rfl, z10⟩ u9 ⟨b9, h9, rfl, z9⟩ u35 ⟨Pb, plb, pcb, rfl, hTb⟩ u31 ⟨Pa, pla, pca, rfl, hTa⟩ hun
      have hne : b9 ≠ b10 := hun.ne 9 10 _ _ _ _ (by decide) (by decide) (by decide) rfl rfl rfl rfl
      clear hun cg cg7
      have B6 := p.back B5
      have ht6 := ht5.keep p.h
      have hv6 := hv5.keep p.h
      have k6 := p.h
      clear q1 q8
      generalize p.w = w6 at *
      clear p
      have hne2 : b10 ≠ b9 := hne.symm
      obtain ⟨w7, hw7⟩ : ∃ w7, w7 = fill9 (fill9 w6 b9 k' b' n' f' s' B' len' c' Pa pla pca T tl tc q) b10 2 false 7 0 [] none 0 0 Pb plb pcb T tl tc q := ⟨_, rfl⟩
      have x9 : TBox w7 b9 k' b' n' f' s' B' len' c' Pa pla pca T tl tc q := hw7 ▸ (fill9_box z9 ..).other (fill9_below (M := 0) ((Below.refl w6.heap.size _).mono (Nat.zero_le _)) (Nat.zero_le _) ..).size (fill9_heap hne ..)
      have x10 : TBox w7 b10 2 false 7 0 [] none 0 0 Pb plb pcb T tl tc q := hw7 ▸ fill9_box ((fill9_heap hne2 ..).trans z10) ..
      have k7 : Below w5.heap.size w5 w7 := hw7 ▸ fill9_below (fill9_below k6 h9 ..) h10 ..
      have y1 := Lib.hid ((k7.block _ (Array.getElem?_eq_some_iff.1 z1.out).1).trans z1.out)
      have y8 := Lib.hid ((k7.block _ (Array.getElem?_eq_some_iff.1 z8.out).1).trans z8.out)
      have hw7o : Other 31 w6 w7 := hw7 ▸ (fill9_other z9 (by decide) ..).trans (fill9_other ((fill9_heap hne2 ..).trans z10) (by decide) ..)
      have hwb : fill9 (fill9 w6 b9 k' b' n' f' s' B' len' c' Pa pla pca T tl tc q) b10 2 false 7 0 [] none 0 0 Pb plb pcb T tl tc q = w7 := hw7.symm
      unfold fill9 at hwb
      clear hw7
      have q9 := fun j => cell_of z9 j
      have f9 := fun j => frozen_of z9 j
      have l9 := (Array.getElem?_eq_some_iff.1 z9).1
      have q10 := fun j => cell_of z10 j
      have f10 := fun j => frozen_of z10 j
      have l10 := (Array.getElem?_eq_some_iff.1 z10).1
      have x9 := Lib.hid x9
      have x10 := Lib.hid x10
      have B7 := B5.trans (k7.mono B5.size)
      have hv7 := hv5.keep k7
      have ht7 := ht5.keep k7
      have o7 : Other 31 w6 w7 := hw7o
      have hTa := hTa.other o7
      have hTb := hTb.other o7
      clear z9 z10 z1 z8
      go_upto_region 6 with fail
      clear q9 f9 l9 q10 f10 l10 hwb
      have s7 := k7.size
      obtain ⟨r6, r0, r1, r2, r3, r4, r5⟩ : Box w7 (w.heap.size + 1) k' b' n' f' s' B' len' c' := ⟨(Array.getElem?_eq_some_iff.1 y1.out).1, cell_of y1.out 0, cell_of y1.out 1, cell_of y1.out 2, cell_of y1.out 3, cell_of y1.out 4, cell_of y1.out 5⟩
      have r8 := fun j => cell_of y8.out j
      have l8 : b8 < w7.heap.size := (Array.getElem?_eq_some_iff.1 y8.out).1
      obtain ⟨w8, hw8⟩ : ∃ w8, w8 = w7.alloc (.cells #[.int .i64 k', .bool b', .int .i64 n', .float .f64 f', .string (st s'), .slice B' len' c', .slice none 0 0, .slice T tl tc, .int .i64 q] 34) := ⟨_, rfl⟩
      have z11 := Lib.hid (hw8 ▸ alloc_here w7 _ : w8.heap[w7.heap.size]? = _)
      have k8 : Below w7.heap.size w7 w8 := hw8 ▸ below_alloc w7 _
      have s8 : w8.heap.size = w7.heap.size + 1 := hw8 ▸ alloc_grows _ _ rfl
      have hwc : w7.alloc (.cells #[.int .i64 k', .bool b', .int .i64 n', .float .f64 f', .string (st s'), .slice B' len' c', .slice none 0 0, .slice T tl tc, .int .i64 q] 34) = w8 := hw8.symm
      clear hw8
      have r8p : ∀ (p : In w8) j, p.w.cell? ⟨b8, j, none⟩ = _ := fun p j => (p.h.cell (p := ⟨b8, j, none⟩) (Nat.lt_of_lt_of_le l8 k8.size)).trans ((k8.cell (p := ⟨b8, j, none⟩) l8).trans (r8 j))
      go_upto_region 7 with fail
      clear r0 r1 r2 r3 r4 r5 r6 r8 l8 hwc
      (refine wp_region_rel_at (7) [12] [12] (by kernel_rfl) (by kernel_rfl) (by kernel_rfl) ?_; (simp only [List.take_succ_cons, List.take_zero, List.drop_succ_cons, List.drop_zero]))
      ((with_reducible refine wpRel_none (by kernel_rfl) (by kernel_rfl) ?_); intro K hK; go_simp; first | (with_reducible refine hK _ ?_; clear hK K) | (apply Exists.intro; (with_reducible refine ⟨fun _ => ⟨?_, _, rfl⟩, hK _ ?_⟩); (· exact rfl); clear hK K) | (apply Exists.intro; (with_reducible refine ⟨fun _ => ?_, hK _ ?_⟩); (· (with_reducible ((refine (one_c 7 _).mono ?_); rintro e w5 ⟨rfl, hb⟩; exact ⟨rfl, hb⟩))); clear hK K))
      ((with_reducible refine wpRel_none (by kernel_rfl) (by kernel_rfl) ?_); intro K hK; go_simp; first | (with_reducible refine hK _ ?_; clear hK K) | (apply Exists.intro; (with_reducible refine ⟨fun _ => ⟨?_, _, rfl⟩, hK _ ?_⟩); (· exact rfl); clear hK K) | (apply Exists.intro; (with_reducible refine ⟨fun _ => ?_, hK _ ?_⟩); (· (with_reducible (fail))); clear hK K))
      ((with_reducible refine wpRel_none (by kernel_rfl) (by kernel_rfl) ?_); intro K hK; go_simp; first | (with_reducible refine hK _ ?_; clear hK K) | (apply Exists.intro; (with_reducible refine ⟨fun _ => ⟨?_, _, rfl⟩, hK _ ?_⟩); (· exact rfl); clear hK K) | (apply Exists.intro; (with_reducible refine ⟨fun _ => ?_, hK _ ?_⟩); (· (with_reducible (fail))); clear hK K))
      ((with_reducible refine wpRel_none (by kernel_rfl) (by kernel_rfl) ?_); intro K hK; go_simp; first | (with_reducible refine hK _ ?_; clear hK K) | (apply Exists.intro; (with_reducible refine ⟨fun _ => ⟨?_, _, rfl⟩, hK _ ?_⟩); (· exact rfl); clear hK K) | (apply Exists.intro; (with_reducible refine ⟨fun _ => ?_, hK _ ?_⟩); (· (with_reducible (fail))); clear hK K))
      ((with_reducible refine wpRel_none (by kernel_rfl) (by kernel_rfl) ?_); intro K hK; go_simp; first | (with_reducible refine hK _ ?_; clear hK K) | (apply Exists.intro; (with_reducible refine ⟨fun _ => ⟨?_, _, rfl⟩, hK _ ?_⟩); (· exact rfl); clear hK K) | (apply Exists.intro; (with_reducible refine ⟨fun _ => ?_, hK _ ?_⟩); (· (with_reducible (fail))); clear hK K))
      ((with_reducible refine wpRel_none (by kernel_rfl) (by kernel_rfl) ?_); intro K hK; go_simp; first | (with_reducible refine hK _ ?_; clear hK K) | (apply Exists.intro; (with_reducible refine ⟨fun _ => ⟨?_, _, rfl⟩, hK _ ?_⟩); (· exact rfl); clear hK K) | (apply Exists.intro; (with_reducible refine ⟨fun _ => ?_, hK _ ?_⟩); (· (with_reducible (fail))); clear hK K))
      ((with_reducible refine wpRel_fact [] (12) (VarAt (w8.heap.size) (#[.int .i64 0, .bool false, .int .i64 0, .float .f64 0, .string (st []), .slice none 0 0, .slice none 0 0, .slice none 0 0, .int .i64 0]) (34)) (by kernel_rfl) rfl rfl (VarAt.steady _ _ _) (by first | exact rfl | go_simp) ?_ ?_); (· intro p; rw [pickR_nil]; (simp only [fillR]); go_wp2_with fail; exact var_post p.h.size rfl rfl))
      ((with_reducible refine wpRel_nil ?_); intro p; (simp only [fillR]))
      rintro u12 ⟨b12, h12', rfl, z12⟩ -
      have k9 : Below w7.heap.size w7 p.w := k8.trans (p.h.mono k8.size)
      have z11 := Lib.hid ((p.h.block _ (Array.getElem?_eq_some_iff.1 z11.out).1).trans z11.out)
      clear r8p
      generalize p.w = w9 at *
      clear p
      obtain ⟨w10, hw10⟩ : ∃ w10, w10 = fill9 w9 b12 2 false 7 0 [] none 0 0 none 0 0 T tl tc q := ⟨_, rfl⟩
      have x12 := Lib.hid (hw10 ▸ fill9_box z12 .. : TBox w10 b12 2 false 7 0 [] none 0 0 none 0 0 T tl tc q)
      have k10 : Below w7.heap.size w7 w10 := hw10 ▸ fill9_below k9 (by omega) ..
      have z11 := Lib.hid ((hw10 ▸ fill9_heap (by omega) .. : w10.heap[w7.heap.size]? = w9.heap[w7.heap.size]?).trans z11.out)
      have kd12 : ∃ cs, w10.heap[b12]? = some (.cells cs 34) := hw10 ▸ fill9_kind ⟨_, z12⟩ ..
      have hwd : fill9 w9 b12 2 false 7 0 [] none 0 0 none 0 0 T tl tc q = w10 := hw10.symm
      unfold fill9 at hwd
      clear hw10
      have q12 := fun j => cell_of z12 j
      have f12 := fun j => frozen_of z12 j
      have l12 := (Array.getElem?_eq_some_iff.1 z12).1
      clear z12
      go_upto_if 48 with fail
      clear q12 f12 l12 hwd
      have x11 : TBox w10 w7.heap.size k' b' n' f' s' B' len' c' none 0 0 T tl tc q := TBox.ofHeap z11.out
      go_cut [] (fun wx => ∃ Pw plw pcw Po plo pco, TBox wx w7.heap.size k' b' n' f' s' B' len' c' Pw plw pcw T tl tc q ∧ TBox wx b12 2 false 7 0 [] none 0 0 Po plo pco T tl tc q ∧ Way w5 PA Pw plw pcw wx ∧ Way w5 PB Po plo pco wx ∧ Below w7.heap.size w7 wx)
      case first =>
        obtain ⟨xs, hrow, hcs⟩ := ht5.hp.cells
        cases path
        · have eA : PA = [] := hPA'.out
          have eB : PB = [] := hPB'.out
          have fin : ∃ Pw plw pcw Po plo pco, TBox w10 w7.heap.size k' b' n' f' s' B' len' c' Pw plw pcw T tl tc q ∧ TBox w10 b12 2 false 7 0 [] none 0 0 Po plo pco T tl tc q ∧ Way w5 PA Pw plw pcw w10 ∧ Way w5 PB Po plo pco w10 ∧ Below w7.heap.size w7 w10 := ⟨none, 0, 0, none, 0, 0, x11, x12.out, eA ▸ Way.nil _ _, eB ▸ Way.nil _ _, k10⟩
          clear x11 eA eB
          go_wp2_with fail
          ((with_reducible show Met _ _ _); refine Met.intro ?_; go_step; (repeat' apply Exists.intro); refine ⟨?_, rfl⟩)
          exact fin
        · have eA : PA = y.path ++ [v] := hPA'.out
          have eB : PB = y.path ++ [oneV 7] := hPB'.out
          have g1 := Lib.hid ((k10.block _ (Array.getElem?_eq_some_iff.1 y1.out).1).trans y1.out)
          have g8 := Lib.hid ((k10.block _ (Array.getElem?_eq_some_iff.1 y8.out).1).trans y8.out)
          have q1 : ∀ (p : In w10) j, p.w.cell? ⟨w.heap.size + 1, j, none⟩ = _ := fun p j => cell_of ((p.h.block _ (Array.getElem?_eq_some_iff.1 g1.out).1).trans g1.out) j
          have q8 : ∀ (p : In w10) j, p.w.cell? ⟨b8, j, none⟩ = _ := fun p j => cell_of ((p.h.block _ (Array.getElem?_eq_some_iff.1 g8.out).1).trans g8.out) j
          have hpe := ht5.epl
          subst hpe
          have hone := hrow.one
          have hxl : xs.length = y.path.length * 6 := hrow.1
          have hpN : P = none → y.path.length = 0 := fun h => by
            rcases Nat.eq_zero_or_pos y.path.length with h0 | h0
            · exact h0
            · obtain ⟨ad, _, _, _, _, _, _, _, _, h1, _⟩ := ht5.hp 0 y.path[0] (by simp)
              rw [h] at h1; cases h1
          obtain ⟨i0, hi0, hz0, hz1, hz2⟩ := info_parts Try.info31
          have bel : ∀ {wx}, Below w7.heap.size w7 wx → Below w5.heap.size w5 wx := fun h => k7.trans (h.mono k7.size)
          have hcx : ∀ wx, Below w5.heap.size w5 wx → ∀ ad, P = some ad → ∀ j u, xs[j]? = some u → wx.cell? (ad.add j) = some u := fun wx h ad hA j u hu => by
            have h1 := hcs ad hA j u hu
            exact (h.cell (cell_lt' h1)).trans h1
          have b10' : Below w5.heap.size w5 w10 := bel k10
          have hX := Lib.hid (And.intro hone hcx)
          clear hone hcx hcs x11
          have zz := z11
          go_upto_region 9 with fail
          (refine wp_region_rel_at (6) [49, 52, 54] [] (by kernel_rfl) (by kernel_rfl) (by kernel_rfl) ?_; (simp only [List.take_succ_cons, List.take_zero, List.drop_succ_cons, List.drop_zero]))
          ((with_reducible refine wpRel_fact [] (49) (RowAt (w10.heap.size) (#[]) (31) (0)) (by kernel_rfl) rfl rfl (RowAt.steady _ _ _ _) (by first | exact rfl | go_simp) ?_ ?_); (· intro p; rw [pickR_nil]; (simp only [fillR]); go_wp2_with fail; exact row_post p.h.size rfl rfl))
          ((with_reducible refine wpRel_none (by kernel_rfl) (by kernel_rfl) ?_); intro K hK; go_simp; first | (with_reducible refine hK _ ?_; clear hK K) | (apply Exists.intro; (with_reducible refine ⟨fun _ => ⟨?_, _, rfl⟩, hK _ ?_⟩); (· exact rfl); clear hK K) | (apply Exists.intro; (with_reducible refine ⟨fun _ => ?_, hK _ ?_⟩); (· (with_reducible (fail))); clear hK K))
          ((with_reducible refine wpRel_none (by kernel_rfl) (by kernel_rfl) ?_); intro K hK; go_simp; first | (with_reducible refine hK _ ?_; clear hK K) | (apply Exists.intro; (with_reducible refine ⟨fun _ => ⟨?_, _, rfl⟩, hK _ ?_⟩); (· exact rfl); clear hK K) | (apply Exists.intro; (with_reducible refine ⟨fun _ => ?_, hK _ ?_⟩); (· (with_reducible (fail))); clear hK K))
          (with_reducible refine wpRel_fact [49] (52) ((OwnF w10.heap.size y.path.length xs)) (by kernel_rfl) rfl rfl ((OwnF.steady _ _ _)) (by first | exact rfl | go_simp) (fun p => ?_) ?_)
          · (try simp only [pickR, pickR_nil, fillR, List.contains_cons, List.contains_nil, Nat.reduceBEq, Bool.or_false, Bool.or_true, Bool.true_or, Bool.false_or, if_true, if_false, Bool.false_eq_true])
            rintro u ⟨b49, h49, rfl, z49⟩
            refine wpList_append_fresh _ rfl _ _ 29 rfl 31 i0 (.agg #[.int .i64 0, .bool false, .int .i64 0, .float .f64 0, .string ByteArray.empty, .slice none 0 0]) 6 72 Try.underlying29 hi0 hz0 hz1 hz2 rfl (by decide) b49 rfl 31 rfl z49 w10.heap.size h49 P y.path.length pc xs rfl hpN hxl (hX.out.2 _ (b10'.trans (p.h.mono b10'.size))) hX.out.1 (by unfold maxLen; omega) (by omega) ?_
            intro v' w' hown hb
            exact ⟨fun h => absurd h (by decide), rfl, rfl, hb, hown⟩
          ((with_reducible refine wpRel_none (by kernel_rfl) (by kernel_rfl) ?_); intro K hK; go_simp; first | (with_reducible refine hK _ ?_; clear hK K) | (apply Exists.intro; (with_reducible refine ⟨fun _ => ⟨?_, _, rfl⟩, hK _ ?_⟩); (· exact rfl); clear hK K) | (apply Exists.intro; (with_reducible refine ⟨fun _ => ?_, hK _ ?_⟩); (· (with_reducible (fail))); clear hK K))
          ((with_reducible refine wpRel_fact [] (54) (RowAt (w10.heap.size) (#[.int .i64 k', .bool b', .int .i64 n', .float .f64 f', .string (st s'), .slice B' len' c']) (31) (1)) (by kernel_rfl) rfl rfl (RowAt.steady _ _ _ _) (by first | exact rfl | go_simp) ?_ ?_); (· intro p; rw [pickR_nil]; (simp only [fillR]); go_wp2_with fail; exact row_post p.h.size rfl rfl))
          ((with_reducible refine wpRel_nil ?_); intro p; (simp only [fillR]))
          rintro u54 ⟨b54, h54, rfl, z54⟩ u52 hown52 u49 ⟨b49, h49, rfl, z49⟩ -
          have k11 := p.back b10'
          have z11 := Lib.hid ((p.h.block _ (Array.getElem?_eq_some_iff.1 z11.out).1).trans z11.out)
          have m11 := p.h
          clear q1 q8 z49
          have z54 := Lib.hid z54
          generalize p.w = w11 at *
          clear p
          unfold OwnF at hown52
          have hl10 := k10.size
          have s11 := m11.size
          go_wp2_with (at_builtin; refine wpList_append_own _ rfl _ _ 29 rfl w10.heap.size 31 i0 (.agg #[.int .i64 0, .bool false, .int .i64 0, .float .f64 0, .string ByteArray.empty, .slice none 0 0]) 6 72 Try.underlying29 hi0 hz0 hz1 hz2 rfl (by decide) _ _ _ rfl hown52 ⟨b54, 0, none⟩ 1 1 (valC k' b' n' f' s' B' len' c') rfl rfl ?d1 ?d2 ?d3 ?d4 ?d5 ?_)
          case d1 =>
            intro j u hu
            have hz := z54.out
            match j, hu with
            | 0, hu => simp at hu; subst hu; exact cell_of hz 0
            | 1, hu => simp at hu; subst hu; exact cell_of hz 1
            | 2, hu => simp at hu; subst hu; exact cell_of hz 2
            | 3, hu => simp at hu; subst hu; exact cell_of hz 3
            | 4, hu => simp at hu; subst hu; exact cell_of hz 4
            | 5, hu => simp at hu; subst hu; exact cell_of hz 5
          case d2 => exact ⟨rfl, rfl, rfl, rfl, rfl, rfl⟩
          case d3 => unfold maxLen; omega
          case d4 => omega
          intro v' w12 hown12 hgrow _
          have m12 : Below w10.heap.size w10 w12 := m11.grown hgrow s11 fun k hk => (hown52.lt k hk).1
          clear hgrow hown52 z54
          have z11 := Lib.hid ((m12.block _ (Array.getElem?_eq_some_iff.1 zz.out).1 : w12.heap[w7.heap.size]? = w10.heap[w7.heap.size]?).trans zz.out)
          have q11 := fun j => cell_of z11.out j
          have f11 := fun j => frozen_of z11.out j
          have l11 : w7.heap.size < w12.heap.size := (Array.getElem?_eq_some_iff.1 z11.out).1
          have hW : ∀ w', Other 31 w12 w' → ∃ A cap, v' = .slice A (y.path.length + 1) cap ∧ Way w5 PA A (y.path.length + 1) cap w' := fun w' ho => by
            obtain ⟨A, cap, rfl, _⟩ := Parts.ofRow (w := w12) (ys := y.path ++ [v]) (by simpa using hown12) ((hrow.snoc hv5).keep (b10'.trans (m12.mono b10'.size)))
            refine ⟨A, cap, by simp, ?_⟩
            rw [eA]
            have h1 : Way w5 (y.path ++ [v]) A (y.path.length + 1) cap w12 := ⟨_, by have := World.ownsRow.mono hown12 (Nat.zero_le _); simpa using this, hrow.snoc hv5⟩
            exact h1.other ho
          have x11 := TBox.ofHeap z11.out
          have x12 := Lib.hid (x12.out.keep m12)
          have g12 : ∃ cs, w12.heap[b12]? = some (.cells cs 34) := by
            obtain ⟨cs, h⟩ := kd12
            exact ⟨cs, (m12.block _ (Array.getElem?_eq_some_iff.1 h).1).trans h⟩
          obtain ⟨A9, cap9, rfl, hA9⟩ := hW _ (set_other (w := w12) z11.out (by decide) 6 v')
          have x11 := x11.path A9 (y.path.length + 1) cap9
          have hlt12 := hown12.lt
          clear hW hown12
          obtain ⟨w13, hw13⟩ : ∃ w13, w13 = w12.setCell ⟨w7.heap.size, 6, none⟩ (.slice A9 (y.path.length + 1) cap9) := ⟨_, rfl⟩
          rw [← hw13] at x11 hA9
          have hwe : w12.setCell ⟨w7.heap.size, 6, none⟩ (.slice A9 (y.path.length + 1) cap9) = w13 := hw13.symm
          clear hw13
          have k12 : Below w7.heap.size w7 w12 := k10.trans (m12.mono k10.size)
          have k13 : Below w7.heap.size w7 w13 := hwe ▸ k12.setCell (p := ⟨w7.heap.size, 6, none⟩) (Nat.le_refl _) _
          have x12 : TBox w13 b12 2 false 7 0 [] none 0 0 none 0 0 T tl tc q := hwe ▸ x12.out.other (by simp [World.setCell]) (Below.heap_setCell _ _ _ _ (by show b12 ≠ w7.heap.size; omega))
          have g12 : ∃ cs, w13.heap[b12]? = some (.cells cs 34) := hwe ▸ (by rw [Below.heap_setCell _ _ _ _ (by show b12 ≠ w7.heap.size; omega)]; exact g12)
          go_upto_region 10 with fail
          clear k12 q11 f11
          have g8 := Lib.hid ((k13.block _ (Array.getElem?_eq_some_iff.1 y8.out).1).trans y8.out)
          have c13 : Below w5.heap.size w5 w13 := bel k13
          obtain ⟨w14, hw14⟩ : ∃ w14, w14 = w13.alloc (.cells #[] 31) := ⟨_, rfl⟩
          have z14 := Lib.hid (hw14 ▸ alloc_here w13 _ : w14.heap[w13.heap.size]? = _)
          have m14 : Below w13.heap.size w13 w14 := hw14 ▸ below_alloc w13 _
          have hwf : w13.alloc (.cells #[] 31) = w14 := hw14.symm
          have q8 := fun j => (m14.cell (p := ⟨b8, j, none⟩) (Array.getElem?_eq_some_iff.1 g8.out).1).trans (cell_of g8.out j)
          have l8 := Nat.lt_of_lt_of_le (Array.getElem?_eq_some_iff.1 g8.out).1 m14.size
          have c14 := c13.trans (m14.mono c13.size)
          clear hw14 l11 hwe hlt12
          go_wp2_with (at_builtin; refine wpList_append_fresh _ rfl _ _ 29 rfl 31 i0 (.agg #[.int .i64 0, .bool false, .int .i64 0, .float .f64 0, .string ByteArray.empty, .slice none 0 0]) 6 72 Try.underlying29 hi0 hz0 hz1 hz2 rfl (by decide) w13.heap.size rfl 31 rfl z14.out w13.heap.size (Nat.le_refl _) P y.path.length pc xs rfl hpN hxl (hX.out.2 _ c14) hX.out.1 ?e1 ?e2 ?_)
          case e1 => unfold maxLen; omega
          case e2 => omega
          intro v60 w15 hown15 hb15
          clear hwf q8 l8
          obtain ⟨cs12, g12⟩ := g12
          have l13 := m14.size
          have l15 := hb15.size
          go_wp2_with (first | ((with_reducible refine (one_c 7 _).mono ?_); rintro e w16 ⟨rfl, hb16⟩; have hown16 := own_below hown15 hb16; have l16 := hb16.size) | (at_builtin; refine wpList_append_own _ rfl _ _ 29 rfl w13.heap.size 31 i0 (.agg #[.int .i64 0, .bool false, .int .i64 0, .float .f64 0, .string ByteArray.empty, .slice none 0 0]) 6 72 Try.underlying29 hi0 hz0 hz1 hz2 rfl (by decide) _ _ _ rfl (hown16.alloc _) ⟨w16.heap.size, 0, none⟩ 1 1 (valC 2 false 7 0 [] none 0 0) rfl rfl ?k1 ?k2 ?k3 ?k4 ?k5 ?_))
          case k1 =>
            intro j u hj
            match j, hj with
            | 0, hj => simp at hj; subst hj; simp [Addr.add, go_sem]
            | 1, hj => simp at hj; subst hj; simp [Addr.add, go_sem]
            | 2, hj => simp at hj; subst hj; simp [Addr.add, go_sem]
            | 3, hj => simp at hj; subst hj; simp [Addr.add, go_sem]
            | 4, hj => simp at hj; subst hj; simp [Addr.add, go_sem]
            | 5, hj => simp at hj; subst hj; simp [Addr.add, go_sem]
          case k2 => intro u hu; simp only [List.mem_cons, List.not_mem_nil, or_false] at hu; rcases hu with rfl | rfl | rfl | rfl | rfl | rfl <;> rfl
          case k3 => unfold maxLen; omega
          case k4 => omega
          case k5 => simp; omega
          intro v63 w17 hown17 hgrow _
          have m16 : Below w13.heap.size w13 w16 := (m14.trans (hb15.mono m14.size)).trans (hb16.mono (Nat.le_trans m14.size hb15.size))
          have m17 : Below w13.heap.size w13 w17 := (m16.alloc m16.size _).grown hgrow (by have := m16.size; simp; omega) fun k hk => (hown16.lt k hk).1
          clear hgrow hown16 hown15
          have x12' := x12.keep m17
          have g12' := (m17.block _ (Array.getElem?_eq_some_iff.1 g12).1).trans g12
          have f12 := fun j => frozen_of g12' j
          have l12 := x12'.lt
          have q12 := x12'.c6
          have x11 := Lib.hid (x11.keep m17)
          have hA9 := hA9.keep m17
          have k17 : Below w7.heap.size w7 w17 := k13.trans (m17.mono k13.size)
          have hW : ∀ w', Other 31 w17 w' → ∃ A cap, v63 = .slice A (y.path.length + 1) cap ∧ Way w5 PB A (y.path.length + 1) cap w' := fun w' ho => by
            obtain ⟨A, cap, rfl, _⟩ := Parts.ofRow (w := w17) (ys := y.path ++ [oneV 7]) (by simpa using hown17) ((hrow.snoc (oneV_has w5 7 ⟨by omega, by omega⟩)).keep (c13.trans (m17.mono c13.size)))
            refine ⟨A, cap, by simp, ?_⟩
            rw [eB]
            have h1 : Way w5 (y.path ++ [oneV 7]) A (y.path.length + 1) cap w17 := ⟨_, by have := World.ownsRow.mono hown17 (Nat.zero_le _); simpa using this, hrow.snoc (oneV_has w5 7 ⟨by omega, by omega⟩)⟩
            exact h1.other ho
          obtain ⟨A10, cap10, rfl, hA10⟩ := hW _ (set_other (w := w17) g12' (by decide) 6 v63)
          have fin : ∃ Pw plw pcw Po plo pco, TBox (w17.setCell ⟨b12, 6, none⟩ (.slice A10 (y.path.length + 1) cap10)) w7.heap.size k' b' n' f' s' B' len' c' Pw plw pcw T tl tc q ∧ TBox (w17.setCell ⟨b12, 6, none⟩ (.slice A10 (y.path.length + 1) cap10)) b12 2 false 7 0 [] none 0 0 Po plo pco T tl tc q ∧ Way w5 PA Pw plw pcw (w17.setCell ⟨b12, 6, none⟩ (.slice A10 (y.path.length + 1) cap10)) ∧ Way w5 PB Po plo pco (w17.setCell ⟨b12, 6, none⟩ (.slice A10 (y.path.length + 1) cap10)) ∧ Below w7.heap.size w7 (w17.setCell ⟨b12, 6, none⟩ (.slice A10 (y.path.length + 1) cap10)) :=
            ⟨A9, _, cap9, A10, _, cap10, x11.out.other (by simp [World.setCell]) (Below.heap_setCell _ _ _ _ (by show w7.heap.size ≠ b12; omega)), x12'.path A10 _ cap10, hA9.other (set_other g12' (by decide) 6 _), hA10, k17.setCell (p := ⟨b12, 6, none⟩) (by show w7.heap.size ≤ b12; omega) _⟩
          clear hW hown17 g12' x12' x12 hA9 hA10 m17 k17 c13 c14 hX g8
          go_wp2_with fail
          ((with_reducible show Met _ _ _); refine Met.intro ?_; go_step; (repeat' apply Exists.intro); refine ⟨?_, rfl⟩)
          exact fin
      case rest =>
        obtain ⟨Pw, plw, pcw, Po, plo, pco, x11, x12, hTw, hTo, k11⟩ := hcut
        have c7 := k7.trans (k11.mono k7.size)
        have cw := B5.trans (c7.mono B5.size)
        have x9 := x9.out.keep k11
        have x10 := x10.out.keep k11
        have hTa := hTa.keep k11
        have hTb := hTb.keep k11
        have e1 := (k11.block _ (Array.getElem?_eq_some_iff.1 y1.out).1).trans y1.out
        have e8 := (k11.block _ (Array.getElem?_eq_some_iff.1 y8.out).1).trans y8.out
        have htc := ht5.keep c7
        have hvc := hv5.keep c7
        have mk : ∀ {k b n f s B len c u P pl pc PQ}, Has wc (valV k b n f s B len c) u → Way w5 PQ P pl pc wc → HasT wc k b n f s B len c P pl pc T tl tc q ⟨u, PQ, y.tags, y.bulk⟩ := fun hu hw => by
          obtain ⟨h1, h2, h3, h4⟩ := hw.has c7
          exact ⟨hu, h2, h1, h3, h4, htc.ht, htc.etl, htc.htc, htc.htm, htc.ebq, htc.qi⟩
        have h7 := oneV_has wc 7 ⟨by omega, by omega⟩
        have Ta := mk hvc hTa
        have Tb := mk h7 hTb
        have Tw := mk hvc hTw
        have To := mk h7 hTo
        clear mk hTa hTb hTw hTo kd12 z11
        obtain ⟨A9, A0, A1, A2, A3, A4, A5, A6, A7, A8⟩ := x9
        obtain ⟨C9, C0, C1, C2, C3, C4, C5, C6, C7, C8⟩ := x10
        obtain ⟨D9, D0, D1, D2, D3, D4, D5, D6, D7, D8⟩ := x11
        obtain ⟨E9, E0, E1, E2, E3, E4, E5, E6, E7, E8⟩ := x12
        obtain ⟨G9, G0, G1, G2, G3, G4, G5, G6, G7, G8⟩ := TBox.ofHeap e8
        obtain ⟨V6, V0, V1, V2, V3, V4, V5⟩ : Box wc (w.heap.size + 1) k' b' n' f' s' B' len' c' := ⟨(Array.getElem?_eq_some_iff.1 e1).1, cell_of e1 0, cell_of e1 1, cell_of e1 2, cell_of e1 3, cell_of e1 4, cell_of e1 5⟩
        clear e1 e8 y1 y8
        obtain ⟨ta, hta⟩ : ∃ ta : TravD, ta = ⟨v, PA, y.tags, y.bulk⟩ := ⟨_, rfl⟩
        obtain ⟨tb, htb⟩ : ∃ tb : TravD, tb = ⟨oneV 7, PB, y.tags, y.bulk⟩ := ⟨_, rfl⟩
        obtain ⟨tv, htv⟩ : ∃ tv : TravD, tv = ⟨v, [v], [], 1⟩ := ⟨_, rfl⟩
        rw [← hta] at Ta Tw
        rw [← htb] at Tb To
        have cr2 : ∀ (p : In wc) (A1 A2 : Option Addr) (c1 c2 : Nat), TParts p.w A1 [ta, tb] → TParts p.w A2 [ta, tb] → Calls Try.prog 12 #[.slice A1 2 c1, .slice A2 2 c2] p.w fun e w' => e = .returned (.bool true) ∧ Below p.w.heap.size p.w w' := fun p A1 A2 c1 c2 h1 h2 => by
          have := rows_c [ta, tb] [ta, tb] A1 A2 c1 c2 p.w h1 h2 (by simp [maxLen])
          rwa [rowsT_self] at this
        have cr1 : ∀ (p : In wc) (A1 A2 : Option Addr) (c1 c2 : Nat), TParts p.w A1 [tv] → TParts p.w A2 [tv] → Calls Try.prog 12 #[.slice A1 1 c1, .slice A2 1 c2] p.w fun e w' => e = .returned (.bool true) ∧ Below p.w.heap.size p.w w' := fun p A1 A2 c1 c2 h1 h2 => by
          have := rows_c [tv] [tv] A1 A2 c1 c2 p.w h1 h2 (by simp [maxLen])
          rwa [rowsT_self] at this
        have cn : ∀ (p : In wc), Calls Try.prog 21 #[valV k' b' n' f' s' B' len' c'] p.w fun e w' => ∃ P, e = .returned (travV k' b' n' f' s' B' len' c' P 1 1 none 0 0 1) ∧ HasT w' k' b' n' f' s' B' len' c' P 1 1 none 0 0 1 tv ∧ Below p.w.heap.size p.w w' := fun p => by
          rw [htv]
          exact new_c k' b' n' f' s' B' len' c' v p.w (hvc.keep p.h)
        have cs1 : ∀ (p : In wc), Calls Try.prog 17 #[travV k b n f s B len c P pl pc T tl tc q, travV k b n f s B len c P pl pc T tl tc q] p.w fun e w' => e = .returned (.bool true) ∧ Below p.w.heap.size p.w w' := fun p => by
          have := sameT_c y y k b n f s B len c P pl pc T tl tc q k b n f s B len c P pl pc T tl tc q p.w (htc.keep p.h) (htc.keep p.h)
          rwa [sameT_self] at this
        have cs2 : ∀ (p : In wc), Calls Try.prog 17 #[travV k' b' n' f' s' B' len' c' Pa pla pca T tl tc q, travV 2 false 7 0 [] none 0 0 Pb plb pcb T tl tc q] p.w fun e w' => e = .returned (.bool (sameT ta tb)) ∧ Below p.w.heap.size p.w w' := fun p => sameT_c ta tb _ _ _ _ _ _ _ _ _ _ _ _ _ _ _ _ _ _ _ _ _ _ _ _ _ _ _ _ _ _ p.w (Ta.keep p.h) (Tb.keep p.h)
        have cs3 : ∀ (p : In wc), Calls Try.prog 16 #[travV k' b' n' f' s' B' len' c' Pa pla pca T tl tc q, travV 2 false 7 0 [] none 0 0 Pb plb pcb T tl tc q] p.w fun e w' => e = .returned (.bool (sameT ta tb)) ∧ Below p.w.heap.size p.w w' := fun p => lsame_c ta tb _ _ _ _ _ _ _ _ _ _ _ _ _ _ _ _ _ _ _ _ _ _ _ _ _ _ _ _ _ _ p.w (Ta.keep p.h) (Tb.keep p.h)
        have hnw : ∀ (p : In wc) A, Parts p.w A [v] → HasT p.w k' b' n' f' s' B' len' c' A 1 1 none 0 0 1 tv := fun p A h => by
          rw [htv]
          exact ⟨hvc.keep p.h, h, rfl, Nat.le_refl _, by unfold maxLen; show (1 : Nat) ≤ _; omega, fun i x hx => by simp at hx, rfl, Nat.le_refl _, Nat.zero_le _, rfl, ⟨by show (-9223372036854775808 : Int) ≤ 1; omega, by show (1 : Int) ≤ 9223372036854775807; omega⟩⟩
        clear hta htb htv ht5 hv5 htc
        generalize sameT ta tb = sab at *
        try simp only [List.append_eq, List.cons_append, List.nil_append]
        go_upto_region 11 with fail
        (refine wp_region_rel_at (36) [69, 72, 77, 78, 81, 82, 83] [] (by kernel_rfl) (by kernel_rfl) (by kernel_rfl) ?_; (simp only [List.take_succ_cons, List.take_zero, List.drop_succ_cons, List.drop_zero]))
        ((with_reducible refine wpRel_none (by kernel_rfl) (by kernel_rfl) ?_); intro K hK; go_simp; first | (with_reducible refine hK _ ?_; clear hK K) | (apply Exists.intro; (with_reducible refine ⟨fun _ => ⟨?_, _, rfl⟩, hK _ ?_⟩); (· exact rfl); clear hK K) | (apply Exists.intro; (with_reducible refine ⟨fun _ => ?_, hK _ ?_⟩); (· (with_reducible ((refine (awake_c _).mono ?_); rintro e w5 ⟨rfl, hb⟩; exact ⟨rfl, hb⟩))); clear hK K))
        ((with_reducible refine wpRel_none (by kernel_rfl) (by kernel_rfl) ?_); intro K hK; go_simp; first | (with_reducible refine hK _ ?_; clear hK K) | (apply Exists.intro; (with_reducible refine ⟨fun _ => ⟨?_, _, rfl⟩, hK _ ?_⟩); (· exact rfl); clear hK K) | (apply Exists.intro; (with_reducible refine ⟨fun _ => ?_, hK _ ?_⟩); (· (with_reducible (fail))); clear hK K))
        ((with_reducible refine wpRel_none (by kernel_rfl) (by kernel_rfl) ?_); intro K hK; go_simp; first | (with_reducible refine hK _ ?_; clear hK K) | (apply Exists.intro; (with_reducible refine ⟨fun _ => ⟨?_, _, rfl⟩, hK _ ?_⟩); (· exact rfl); clear hK K) | (apply Exists.intro; (with_reducible refine ⟨fun _ => ?_, hK _ ?_⟩); (· (with_reducible (fail))); clear hK K))
        ((with_reducible refine wpRel_none (by kernel_rfl) (by kernel_rfl) ?_); intro K hK; go_simp; first | (with_reducible refine hK _ ?_; clear hK K) | (apply Exists.intro; (with_reducible refine ⟨fun _ => ⟨?_, _, rfl⟩, hK _ ?_⟩); (· exact rfl); clear hK K) | (apply Exists.intro; (with_reducible refine ⟨fun _ => ?_, hK _ ?_⟩); (· (with_reducible (fail))); clear hK K))
        (with_reducible refine wpRel_fact [] (69) ((RowsF [ta, tb] 2)) (by kernel_rfl) rfl rfl ((RowsF.steady _ _)) (by first | exact rfl | go_simp) (fun p => ?_) ?_)
        · (try simp only [pickR, pickR_nil, fillR, List.contains_cons, List.contains_nil, Nat.reduceBEq, Bool.or_false, Bool.or_true, Bool.true_or, Bool.false_or, if_true, if_false, Bool.false_eq_true])
          go_wp2_with fail
          exact ⟨fun h => absurd h (by decide), rfl, rfl, below_alloc _ _, ⟨_, 2, rfl, tparts2 (Ta.keep p.h) (Tb.keep p.h)⟩⟩
        ((with_reducible refine wpRel_none (by kernel_rfl) (by kernel_rfl) ?_); intro K hK; go_simp; first | (with_reducible refine hK _ ?_; clear hK K) | (apply Exists.intro; (with_reducible refine ⟨fun _ => ⟨?_, _, rfl⟩, hK _ ?_⟩); (· exact rfl); clear hK K) | (apply Exists.intro; (with_reducible refine ⟨fun _ => ?_, hK _ ?_⟩); (· (with_reducible (fail))); clear hK K))
        ((with_reducible refine wpRel_none (by kernel_rfl) (by kernel_rfl) ?_); intro K hK; go_simp; first | (with_reducible refine hK _ ?_; clear hK K) | (apply Exists.intro; (with_reducible refine ⟨fun _ => ⟨?_, _, rfl⟩, hK _ ?_⟩); (· exact rfl); clear hK K) | (apply Exists.intro; (with_reducible refine ⟨fun _ => ?_, hK _ ?_⟩); (· (with_reducible (fail))); clear hK K))
        (with_reducible refine wpRel_fact [] (72) ((RowsF [ta, tb] 2)) (by kernel_rfl) rfl rfl ((RowsF.steady _ _)) (by first | exact rfl | go_simp) (fun p => ?_) ?_)
        · (try simp only [pickR, pickR_nil, fillR, List.contains_cons, List.contains_nil, Nat.reduceBEq, Bool.or_false, Bool.or_true, Bool.true_or, Bool.false_or, if_true, if_false, Bool.false_eq_true])
          go_wp2_with fail
          exact ⟨fun h => absurd h (by decide), rfl, rfl, below_alloc _ _, ⟨_, 2, rfl, tparts2 (Tw.keep p.h) (To.keep p.h)⟩⟩
        ((with_reducible refine wpRel_val [69, 72] (by kernel_rfl) (by kernel_rfl) ?_); intro K hK; (simp only [pickR, fillR, List.contains_cons, List.contains_nil, Nat.reduceBEq, Bool.or_false, Bool.or_true, Bool.true_or, Bool.false_or, if_true, if_false, Bool.false_eq_true]); go_simp; first | (with_reducible refine hK _ ?_; clear hK K) | (apply Exists.intro; (with_reducible refine ⟨?_, hK _ ?_⟩); (· ((rintro p u ⟨X1, y1, rfl, h1⟩ u' ⟨X2, y2, rfl, h2⟩; go_simp; refine (cr2 _ _ _ _ _ ‹_› ‹_›).mono ?_; rintro e w5 ⟨rfl, hb⟩; exact ⟨rfl, hb⟩))); clear hK K))
        ((with_reducible refine wpRel_none (by kernel_rfl) (by kernel_rfl) ?_); intro K hK; go_simp; first | (with_reducible refine hK _ ?_; clear hK K) | (apply Exists.intro; (with_reducible refine ⟨fun _ => ⟨?_, _, rfl⟩, hK _ ?_⟩); (· exact rfl); clear hK K) | (apply Exists.intro; (with_reducible refine ⟨fun _ => ?_, hK _ ?_⟩); (· (with_reducible (fail))); clear hK K))
        ((with_reducible refine wpRel_none (by kernel_rfl) (by kernel_rfl) ?_); intro K hK; go_simp; first | (with_reducible refine hK _ ?_; clear hK K) | (apply Exists.intro; (with_reducible refine ⟨fun _ => ⟨?_, _, rfl⟩, hK _ ?_⟩); (· exact rfl); clear hK K) | (apply Exists.intro; (with_reducible refine ⟨fun _ => ?_, hK _ ?_⟩); (· (with_reducible (fail))); clear hK K))
        ((with_reducible refine wpRel_none (by kernel_rfl) (by kernel_rfl) ?_); intro K hK; go_simp; first | (with_reducible refine hK _ ?_; clear hK K) | (apply Exists.intro; (with_reducible refine ⟨fun _ => ⟨?_, _, rfl⟩, hK _ ?_⟩); (· exact rfl); clear hK K) | (apply Exists.intro; (with_reducible refine ⟨fun _ => ?_, hK _ ?_⟩); (· (with_reducible (fail))); clear hK K))
        (with_reducible refine wpRel_fact [] (77) ((NewF k' b' n' f' s' B' len' c' tv)) (by kernel_rfl) rfl rfl ((NewF.steady _ _ _ _ _ _ _ _ _)) (by first | exact rfl | go_simp) (fun p => ?_) ?_)
        · (try simp only [pickR, pickR_nil, fillR, List.contains_cons, List.contains_nil, Nat.reduceBEq, Bool.or_false, Bool.or_true, Bool.true_or, Bool.false_or, if_true, if_false, Bool.false_eq_true])
          go_wp2_with ((with_reducible refine (cn _).mono ?_); rintro e w' ⟨X, rfl, hT, hb⟩)
          exact ⟨fun h => absurd h (by decide), rfl, rfl, hb, ⟨X, rfl, hT⟩⟩
        (with_reducible refine wpRel_fact [77] (78) ((RowsF [tv] 1)) (by kernel_rfl) rfl rfl ((RowsF.steady _ _)) (by first | exact rfl | go_simp) (fun p => ?_) ?_)
        · (try simp only [pickR, pickR_nil, fillR, List.contains_cons, List.contains_nil, Nat.reduceBEq, Bool.or_false, Bool.or_true, Bool.true_or, Bool.false_or, if_true, if_false, Bool.false_eq_true])
          rintro u ⟨X, rfl, h⟩
          go_wp2_with fail
          exact ⟨fun h => absurd h (by decide), rfl, rfl, below_alloc _ _, ⟨_, 1, rfl, tparts1 h⟩⟩
        ((with_reducible refine wpRel_none (by kernel_rfl) (by kernel_rfl) ?_); intro K hK; go_simp; first | (with_reducible refine hK _ ?_; clear hK K) | (apply Exists.intro; (with_reducible refine ⟨fun _ => ⟨?_, _, rfl⟩, hK _ ?_⟩); (· exact rfl); clear hK K) | (apply Exists.intro; (with_reducible refine ⟨fun _ => ?_, hK _ ?_⟩); (· (with_reducible (fail))); clear hK K))
        ((with_reducible refine wpRel_none (by kernel_rfl) (by kernel_rfl) ?_); intro K hK; go_simp; first | (with_reducible refine hK _ ?_; clear hK K) | (apply Exists.intro; (with_reducible refine ⟨fun _ => ⟨?_, _, rfl⟩, hK _ ?_⟩); (· exact rfl); clear hK K) | (apply Exists.intro; (with_reducible refine ⟨fun _ => ?_, hK _ ?_⟩); (· (with_reducible (fail))); clear hK K))
        (with_reducible refine wpRel_fact [] (81) ((PartF v)) (by kernel_rfl) rfl rfl ((PartF.steady _)) (by first | exact rfl | go_simp) (fun p => ?_) ?_)
        · (try simp only [pickR, pickR_nil, fillR, List.contains_cons, List.contains_nil, Nat.reduceBEq, Bool.or_false, Bool.or_true, Bool.true_or, Bool.false_or, if_true, if_false, Bool.false_eq_true])
          go_wp2_with fail
          exact ⟨fun h => absurd h (by decide), rfl, rfl, below_alloc _ _, ⟨_, rfl, parts1 (hvc.keep p.h)⟩⟩
        (with_reducible refine wpRel_fact [81] (82) ((NewF k' b' n' f' s' B' len' c' tv)) (by kernel_rfl) rfl rfl ((NewF.steady _ _ _ _ _ _ _ _ _)) (by first | exact rfl | go_simp) (fun p => ?_) ?_)
        · (try simp only [pickR, pickR_nil, fillR, List.contains_cons, List.contains_nil, Nat.reduceBEq, Bool.or_false, Bool.or_true, Bool.true_or, Bool.false_or, if_true, if_false, Bool.false_eq_true])
          rintro u ⟨X, rfl, h⟩
          go_wp2_with fail
          exact ⟨fun h => absurd h (by decide), rfl, rfl, Below.refl _ _, ⟨X, rfl, hnw p X h⟩⟩
        (with_reducible refine wpRel_fact [82] (83) ((RowsF [tv] 1)) (by kernel_rfl) rfl rfl ((RowsF.steady _ _)) (by first | exact rfl | go_simp) (fun p => ?_) ?_)
        · (try simp only [pickR, pickR_nil, fillR, List.contains_cons, List.contains_nil, Nat.reduceBEq, Bool.or_false, Bool.or_true, Bool.true_or, Bool.false_or, if_true, if_false, Bool.false_eq_true])
          rintro u ⟨X, rfl, h⟩
          go_wp2_with fail
          exact ⟨fun h => absurd h (by decide), rfl, rfl, below_alloc _ _, ⟨_, 1, rfl, tparts1 h⟩⟩
        ((with_reducible refine wpRel_val [78, 83] (by kernel_rfl) (by kernel_rfl) ?_); intro K hK; (simp only [pickR, fillR, List.contains_cons, List.contains_nil, Nat.reduceBEq, Bool.or_false, Bool.or_true, Bool.true_or, Bool.false_or, if_true, if_false, Bool.false_eq_true]); go_simp; first | (with_reducible refine hK _ ?_; clear hK K) | (apply Exists.intro; (with_reducible refine ⟨?_, hK _ ?_⟩); (· ((rintro p u ⟨X1, y1, rfl, h1⟩ u' ⟨X2, y2, rfl, h2⟩; go_simp; refine (cr1 _ _ _ _ _ ‹_› ‹_›).mono ?_; rintro e w5 ⟨rfl, hb⟩; exact ⟨rfl, hb⟩))); clear hK K))
        ((with_reducible refine wpRel_none (by kernel_rfl) (by kernel_rfl) ?_); intro K hK; go_simp; first | (with_reducible refine hK _ ?_; clear hK K) | (apply Exists.intro; (with_reducible refine ⟨fun _ => ⟨?_, _, rfl⟩, hK _ ?_⟩); (· exact rfl); clear hK K) | (apply Exists.intro; (with_reducible refine ⟨fun _ => ?_, hK _ ?_⟩); (· (with_reducible (fail))); clear hK K))
        ((with_reducible refine wpRel_none (by kernel_rfl) (by kernel_rfl) ?_); intro K hK; go_simp; first | (with_reducible refine hK _ ?_; clear hK K) | (apply Exists.intro; (with_reducible refine ⟨fun _ => ⟨?_, _, rfl⟩, hK _ ?_⟩); (· exact rfl); clear hK K) | (apply Exists.intro; (with_reducible refine ⟨fun _ => ?_, hK _ ?_⟩); (· (with_reducible (fail))); clear hK K))
        ((with_reducible refine wpRel_none (by kernel_rfl) (by kernel_rfl) ?_); intro K hK; go_simp; first | (with_reducible refine hK _ ?_; clear hK K) | (apply Exists.intro; (with_reducible refine ⟨fun _ => ⟨?_, _, rfl⟩, hK _ ?_⟩); (· exact rfl); clear hK K) | (apply Exists.intro; (with_reducible refine ⟨fun _ => ?_, hK _ ?_⟩); (· (with_reducible (fail))); clear hK K))
        ((with_reducible refine wpRel_none (by kernel_rfl) (by kernel_rfl) ?_); intro K hK; go_simp; first | (with_reducible refine hK _ ?_; clear hK K) | (apply Exists.intro; (with_reducible refine ⟨fun _ => ⟨?_, _, rfl⟩, hK _ ?_⟩); (· exact rfl); clear hK K) | (apply Exists.intro; (with_reducible refine ⟨fun _ => ?_, hK _ ?_⟩); (· (with_reducible (fail))); clear hK K))
        ((with_reducible refine wpRel_none (by kernel_rfl) (by kernel_rfl) ?_); intro K hK; go_simp; first | (with_reducible refine hK _ ?_; clear hK K) | (apply Exists.intro; (with_reducible refine ⟨fun _ => ⟨?_, _, rfl⟩, hK _ ?_⟩); (· exact rfl); clear hK K) | (apply Exists.intro; (with_reducible refine ⟨fun _ => ?_, hK _ ?_⟩); (· (with_reducible ((exact cs1 _)))); clear hK K))
        ((with_reducible refine wpRel_none (by kernel_rfl) (by kernel_rfl) ?_); intro K hK; go_simp; first | (with_reducible refine hK _ ?_; clear hK K) | (apply Exists.intro; (with_reducible refine ⟨fun _ => ⟨?_, _, rfl⟩, hK _ ?_⟩); (· exact rfl); clear hK K) | (apply Exists.intro; (with_reducible refine ⟨fun _ => ?_, hK _ ?_⟩); (· (with_reducible (fail))); clear hK K))
        ((with_reducible refine wpRel_none (by kernel_rfl) (by kernel_rfl) ?_); intro K hK; go_simp; first | (with_reducible refine hK _ ?_; clear hK K) | (apply Exists.intro; (with_reducible refine ⟨fun _ => ⟨?_, _, rfl⟩, hK _ ?_⟩); (· exact rfl); clear hK K) | (apply Exists.intro; (with_reducible refine ⟨fun _ => ?_, hK _ ?_⟩); (· (with_reducible (fail))); clear hK K))
        ((with_reducible refine wpRel_none (by kernel_rfl) (by kernel_rfl) ?_); intro K hK; go_simp; first | (with_reducible refine hK _ ?_; clear hK K) | (apply Exists.intro; (with_reducible refine ⟨fun _ => ⟨?_, _, rfl⟩, hK _ ?_⟩); (· exact rfl); clear hK K) | (apply Exists.intro; (with_reducible refine ⟨fun _ => ?_, hK _ ?_⟩); (· (with_reducible (fail))); clear hK K))
        ((with_reducible refine wpRel_none (by kernel_rfl) (by kernel_rfl) ?_); intro K hK; go_simp; first | (with_reducible refine hK _ ?_; clear hK K) | (apply Exists.intro; (with_reducible refine ⟨fun _ => ⟨?_, _, rfl⟩, hK _ ?_⟩); (· exact rfl); clear hK K) | (apply Exists.intro; (with_reducible refine ⟨fun _ => ?_, hK _ ?_⟩); (· (with_reducible (fail))); clear hK K))
        ((with_reducible refine wpRel_none (by kernel_rfl) (by kernel_rfl) ?_); intro K hK; go_simp; first | (with_reducible refine hK _ ?_; clear hK K) | (apply Exists.intro; (with_reducible refine ⟨fun _ => ⟨?_, _, rfl⟩, hK _ ?_⟩); (· exact rfl); clear hK K) | (apply Exists.intro; (with_reducible refine ⟨fun _ => ?_, hK _ ?_⟩); (· (with_reducible ((exact cs2 _)))); clear hK K))
        ((with_reducible refine wpRel_none (by kernel_rfl) (by kernel_rfl) ?_); intro K hK; go_simp; first | (with_reducible refine hK _ ?_; clear hK K) | (apply Exists.intro; (with_reducible refine ⟨fun _ => ⟨?_, _, rfl⟩, hK _ ?_⟩); (· exact rfl); clear hK K) | (apply Exists.intro; (with_reducible refine ⟨fun _ => ?_, hK _ ?_⟩); (· (with_reducible (fail))); clear hK K))
        ((with_reducible refine wpRel_none (by kernel_rfl) (by kernel_rfl) ?_); intro K hK; go_simp; first | (with_reducible refine hK _ ?_; clear hK K) | (apply Exists.intro; (with_reducible refine ⟨fun _ => ⟨?_, _, rfl⟩, hK _ ?_⟩); (· exact rfl); clear hK K) | (apply Exists.intro; (with_reducible refine ⟨fun _ => ?_, hK _ ?_⟩); (· (with_reducible (fail))); clear hK K))
        ((with_reducible refine wpRel_none (by kernel_rfl) (by kernel_rfl) ?_); intro K hK; go_simp; first | (with_reducible refine hK _ ?_; clear hK K) | (apply Exists.intro; (with_reducible refine ⟨fun _ => ⟨?_, _, rfl⟩, hK _ ?_⟩); (· exact rfl); clear hK K) | (apply Exists.intro; (with_reducible refine ⟨fun _ => ?_, hK _ ?_⟩); (· (with_reducible ((exact cs3 _)))); clear hK K))
        ((with_reducible refine wpRel_none (by kernel_rfl) (by kernel_rfl) ?_); intro K hK; go_simp; first | (with_reducible refine hK _ ?_; clear hK K) | (apply Exists.intro; (with_reducible refine ⟨fun _ => ⟨?_, _, rfl⟩, hK _ ?_⟩); (· exact rfl); clear hK K) | (apply Exists.intro; (with_reducible refine ⟨fun _ => ?_, hK _ ?_⟩); (· (with_reducible (fail))); clear hK K))
        ((with_reducible refine wpRel_none (by kernel_rfl) (by kernel_rfl) ?_); intro K hK; go_simp; first | (with_reducible refine hK _ ?_; clear hK K) | (apply Exists.intro; (with_reducible refine ⟨fun _ => ⟨?_, _, rfl⟩, hK _ ?_⟩); (· exact rfl); clear hK K) | (apply Exists.intro; (with_reducible refine ⟨fun _ => ?_, hK _ ?_⟩); (· (with_reducible (fail))); clear hK K))
        ((with_reducible refine wpRel_none (by kernel_rfl) (by kernel_rfl) ?_); intro K hK; go_simp; first | (with_reducible refine hK _ ?_; clear hK K) | (apply Exists.intro; (with_reducible refine ⟨fun _ => ⟨?_, _, rfl⟩, hK _ ?_⟩); (· exact rfl); clear hK K) | (apply Exists.intro; (with_reducible refine ⟨fun _ => ?_, hK _ ?_⟩); (· (with_reducible (fail))); clear hK K))
        ((with_reducible refine wpRel_nil ?_); intro p; (simp only [fillR]))
        intro u83 _ u82 _ u81 _ u78 _ u77 _ u72 _ u69 _ _
        have bf := p.back cw
        go_simp
        go_wp2_with fail
        go_ret
        exact ⟨by simp, bf⟩
theorem travGoes_any (k : Int) (b : Bool) (n : Int) (f : Nat) (s : List UInt8) (B : Option Addr) (len c : Nat) (P : Option Addr) (pl pc : Nat) (T : Option Addr) (tl tc : Nat) (q : Int) (t : TravD) (u : Value) (v : Val) (path : Bool) (w : World)
    (ht : HasT w k b n f s B len c P pl pc T tl tc q t) (hv : Has w u v) :
    Calls Try.prog 5 #[travV k b n f s B len c P pl pc T tl tc q, u, .bool path] w fun e w' => e = .returned (.bool true) ∧ Below w.heap.size w w' := by
  obtain ⟨A, cap, rfl, _⟩ := hv.open
  exact travGoes_walk k b n f s B len c P pl pc T tl tc q t _ _ _ _ _ _ _ _ v path w ht hv
end Go.Proofs.Ytfccplkfdhpdgaa
