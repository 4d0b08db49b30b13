
/-
  PredTurns, walked.
-/
import Derived.Test.YtglcnnnjdkjggaaPrh
import Derived.Test.YtglcnnnjdkjggaaPrb
import Derived.Test.YtglcnnnjdkjggaaPrdE
import Derived.Test.YtglcnnnjdkjggaaWgh
set_option linter.unusedSimpArgs false
set_option linter.unusedVariables false
namespace Go.Proofs.Ytglcnnnjdkjggaa
open Go.RowKit

set_option maxRecDepth 8000 in
set_option maxHeartbeats 1000000 in
theorem pHoldsQ_c (q : Pr) (v : Val) (b : Bool) (uq uv : Value) (w : World) (m : Int) (hq : HasQ w uq q) (hv : Has w uv v) (hm : w.cell? ⟨maxG, 0, none⟩ = some (.int .i64 m)) (hc : checkQ q 1 = true) (ht : Tells q v b) :
    Calls Try.prog 11 #[uq, uv] w fun e w' => e = .returned (.bool b) ∧ Below w.heap.size w w' := by
  have c1 : ∀ w', Below w.heap.size w w' → Calls Try.prog 9 #[uq] w' fun e w'' => e = .returned (.bool true) ∧ Below w'.heap.size w' w'' := fun w' hb => by
    have := pCheckQ_c q uq w' (hq.keep hb)
    rw [hc] at this
    exact this
  have c2 : ∀ w', Below w.heap.size w w' → Calls Try.prog 17 #[uq, uv] w' fun e w'' => e = .returned (.bool b) ∧ Below w'.heap.size w' w'' := fun w' hb => ht uq uv w' m (hq.keep hb) (hv.keep hb) ((hb.cell (p := ⟨maxG, 0, none⟩) (World.block_lt_of_cell? w ⟨maxG, 0, none⟩ hm)).trans hm)
  obtain ⟨B, capb, rfl, _⟩ := hv.open
  obtain ⟨A, cap, K, kcap, rfl, _⟩ := hq.open
  clear hv hq hc ht hm
  go_enter Try.func11, Try.ntmps11
  go_upto_region 1 with fail
  obtain ⟨w1, hw1⟩ : ∃ w1, w1 = (w.alloc (.cells #[.string (st q.op), .slice A q.l.length cap, .slice K q.kids.length kcap] 25)).alloc (.cells #[.int .i64 v.k, .bool v.b, .int .i64 v.n, .float .f64 v.f, .string (st v.s), .slice B v.l.length capb] 31) := ⟨_, rfl⟩
  have bk : Below w.heap.size w w1 := hw1 ▸ (below_alloc w _).alloc (by simp) _
  obtain ⟨x6, x0, x1, x2, x3, x4, x5⟩ : Box w1 (w.heap.size + 1) v.k v.b v.n v.f v.s B v.l.length capb := hw1 ▸ Box.new2 w v.k v.b v.n v.f v.s B v.l.length capb _ _
  have hx7 : w.heap.size + 1 < w1.heap.size := by rw [hw1]; simp
  have z0 : w1.cell? ⟨w.heap.size, 0, none⟩ = some (.string (st q.op)) := by rw [hw1]; simp [go_sem]
  have z1 : w1.cell? ⟨w.heap.size, 1, none⟩ = some (.slice A q.l.length cap) := by rw [hw1]; simp [go_sem]
  have z2 : w1.cell? ⟨w.heap.size, 2, none⟩ = some (.slice K q.kids.length kcap) := by rw [hw1]; simp [go_sem]
  have z6 : w.heap.size < w1.heap.size := by omega
  rw [← hw1]
  clear hw1
  have d1 := fun p : In w1 => c1 p.w (p.back bk)
  have d2 := fun p : In w1 => c2 p.w (p.back bk)
  have d0 := c1 w1 bk
  clear c1 c2
  go_wp2_with (first | ((with_reducible refine d0.mono ?_); rintro e w3 ⟨rfl, hb3⟩; (first | ((with_reducible obtain ⟨p, hw''⟩ := In.of2 p hb3); subst hw'') | (obtain ⟨p, hw''⟩ := In.of hb3; subst hw''))) | ((with_reducible refine (d1 _).mono ?_); rintro e w3 ⟨rfl, hb3⟩; (first | ((with_reducible obtain ⟨p, hw''⟩ := In.of2 p hb3); subst hw'') | (obtain ⟨p, hw''⟩ := In.of hb3; subst hw''))) | ((with_reducible refine (d2 _).mono ?_); rintro e w4 ⟨rfl, hb4⟩; (first | ((with_reducible obtain ⟨p, hw''⟩ := In.of2 p hb4); subst hw'') | (obtain ⟨p, hw''⟩ := In.of hb4; subst hw''))))
  go_ret
  exact ⟨rfl, p.back bk⟩

/-- the cells of a predicate -/
abbrev pcells (op : List UInt8) (A : Option Addr) (n c : Nat) (K : Option Addr) (kn kc : Nat) : Array Value := #[.string (st op), .slice A n c, .slice K kn kc]
theorem row1_ne {op : List UInt8} {A : Option Addr} {n c : Nat} {K : Option Addr} {kn kc : Nat} (hop : op ≠ []) : Obj.cells (pcells op A n c K kn kc) 25 ≠ Obj.cells #[.string ⟨#[]⟩, .slice none 0 0, .slice none 0 0] 25 := by
  intro h
  injection h with h
  have h := congrArg (fun a : Array Value => a[0]?) h
  simp at h
  exact hop h
theorem row2_ne {a b c d e f x y z : Value} : Obj.cells #[a, b, c, d, e, f] 25 ≠ Obj.cells #[x, y, z] 25 := by
  intro h
  injection h with h
  have h := congrArg Array.size h
  simp at h
/-- a predicate over a new row of one, of two -/
theorem hasQ_one {w : World} {op : List UInt8} {p : Pr} {b : Nat} {T : TypeId} {o : List UInt8} {A : Option Addr} {n c : Nat} {K : Option Addr} {kn kc : Nat} (hs : op.length ≤ 140737488351232) (hp : HasQ w (predV o A n c K kn kc) p) (h : w.heap[b]? = some (.cells (pcells o A n c K kn kc) T)) :
    HasQ w (predV op none 0 0 (some ⟨b, 0, none⟩) 1 1) (.mk op [] [p]) := by
  refine HasQ.mk (l := []) (kids := [p]) (fun _ => predV o A n c K kn kc) hs (fun i x hx => by simp at hx) (Nat.le_refl _) (by simp [maxLen]) (Nat.le_refl _) (by simp [maxLen]) (fun i x hx => ?_) (fun i hi => ⟨_, rfl, fun j u hu => ?_⟩)
  · match i, hx with
    | 0, hx => simp at hx; subst hx; exact hp
    | i + 1, hx => simp at hx
  · have hi0 : i = 0 := by simpa using hi
    subst hi0
    rw [show (⟨b, 0, none⟩ : Addr).add (0 * 3 + j) = ⟨b, j, none⟩ by simp [Addr.add]; intro h; exact h.symm, cell_of h]
    exact hu
theorem hasQ_two {w : World} {op : List UInt8} {p q : Pr} {b : Nat} {T : TypeId} {o : List UInt8} {A : Option Addr} {n c : Nat} {K : Option Addr} {kn kc : Nat} {o' : List UInt8} {A' : Option Addr} {n' c' : Nat} {K' : Option Addr} {kn' kc' : Nat} (hs : op.length ≤ 140737488351232) (hp : HasQ w (predV o A n c K kn kc) p) (hq : HasQ w (predV o' A' n' c' K' kn' kc') q)
    (h : w.heap[b]? = some (.cells #[.string (st o), .slice A n c, .slice K kn kc, .string (st o'), .slice A' n' c', .slice K' kn' kc'] T)) :
    HasQ w (predV op none 0 0 (some ⟨b, 0, none⟩) 2 2) (.mk op [] [p, q]) := by
  refine HasQ.mk (l := []) (kids := [p, q]) (fun i => if i = 0 then predV o A n c K kn kc else predV o' A' n' c' K' kn' kc') hs (fun i x hx => by simp at hx) (Nat.le_refl _) (by simp [maxLen]) (Nat.le_refl _) (by simp [maxLen]) (fun i x hx => ?_) (fun i hi => ⟨_, rfl, fun j u hu => ?_⟩)
  · match i, hx with
    | 0, hx => simp at hx; subst hx; simpa using hp
    | 1, hx => simp at hx; subst hx; simpa using hq
    | i + 2, hx => simp at hx
  · have hi0 : i = 0 ∨ i = 1 := by have : i < 2 := by simpa using hi
                                   omega
    rcases hi0 with rfl | rfl
    · rw [show (⟨b, 0, none⟩ : Addr).add (0 * 3 + j) = ⟨b, j, none⟩ by simp [Addr.add]; intro h; exact h.symm, cell_of h]
      have hu : (#[Value.string (st o), .slice A n c, .slice K kn kc])[j]? = some u := hu
      match j, hu with
      | 0, hu => exact hu
      | 1, hu => exact hu
      | 2, hu => exact hu
      | j + 3, hu => simp at hu
    · rw [show (⟨b, 0, none⟩ : Addr).add (1 * 3 + j) = ⟨b, j + 3, none⟩ by simp [Addr.add]; omega, cell_of h]
      have hu : (#[Value.string (st o'), .slice A' n' c', .slice K' kn' kc'])[j]? = some u := hu
      match j, hu with
      | 0, hu => exact hu
      | 1, hu => exact hu
      | 2, hu => exact hu
      | j + 3, hu => simp at hu
structure PBox (w : World) (g : Nat) (op : List UInt8) (A : Option Addr) (n c : Nat) (K : Option Addr) (kn kc : Nat) : Prop where
  lt : g < w.heap.size
  c0 : w.cell? ⟨g, 0, none⟩ = some (.string (st op))
  c1 : w.cell? ⟨g, 1, none⟩ = some (.slice A n c)
  c2 : w.cell? ⟨g, 2, none⟩ = some (.slice K kn kc)
theorem PBox.keep {w w' : World} {g : Nat} {op : List UInt8} {A : Option Addr} {n c : Nat} {K : Option Addr} {kn kc : Nat} (h : PBox w g op A n c K kn kc) (hb : Below w.heap.size w w') : PBox w' g op A n c K kn kc :=
  ⟨Nat.lt_of_lt_of_le h.lt hb.size, (hb.cell (p := ⟨g, 0, none⟩) h.lt).trans h.c0, (hb.cell (p := ⟨g, 1, none⟩) h.lt).trans h.c1, (hb.cell (p := ⟨g, 2, none⟩) h.lt).trans h.c2⟩
theorem pbox_cells {w : World} {b : Nat} {op : List UInt8} {A : Option Addr} {n c : Nat} {K : Option Addr} {kn kc : Nat} {T : TypeId} (h : w.heap[b]? = some (.cells (pcells op A n c K kn kc) T)) : PBox w b op A n c K kn kc :=
  ⟨(Array.getElem?_eq_some_iff.1 h).1, cell_of h 0, cell_of h 1, cell_of h 2⟩
theorem op_some {q : Pr} {d : Nat} (h : checkQ q d = true) : q.op ≠ [] := by
  intro e
  obtain ⟨op, l, kids⟩ := q
  simp only [Pr.op] at e
  subst e
  rw [checkQ] at h
  simp [shapeQ, predsB, One, Two, Any] at h

set_option maxRecDepth 8000 in
set_option maxHeartbeats 40000000 in
theorem predTurns_walk (up uq uv : Value) (pp qq : Pr) (v : Val) (w : World) (m : Int) (hp : HasQ w up pp) (hq : HasQ w uq qq) (hv : Has w uv v) (hvs : v.s.length ≤ 4000000000) (hm : w.cell? ⟨maxG, 0, none⟩ = some (.int .i64 m)) :
    Calls Try.prog 5 #[up, uq, uv] w fun e w' => e = .returned (.bool true) ∧ Below w.heap.size w w' := by
  have aw := fun w => awake_c w
  have hg := World.block_lt_of_cell? w ⟨maxG, 0, none⟩ hm
  have c1 : ∀ w', Below w.heap.size w w' → Calls Try.prog 8 #[up, .int .i64 200] w' (SomeEnds pp 200 w') := fun w' hb => weighQ_c pp up w' 200 (hp.keep hb) (by omega)
  have c2 : ∀ w', Below w.heap.size w w' → Calls Try.prog 8 #[uq, .int .i64 200] w' (SomeEnds qq 200 w') := fun w' hb => weighQ_c qq uq w' 200 (hq.keep hb) (by omega)
  have c3 : ∀ w', Below w.heap.size w w' → Calls Try.prog 13 #[uv, .int .i64 200] w' (WeighN v 200 w') := fun w' hb => weighN_c v uv w' 200 (hv.keep hb) (by omega)
  have c4 : ∀ w', Below w.heap.size w w' → Calls Try.prog 10 #[up] w' fun e w'' => e = .returned (.bool (checkQ pp 1)) ∧ Below w'.heap.size w' w'' := fun w' hb => rCheckQ_c pp up w' (hp.keep hb)
  have c5 : ∀ w', Below w.heap.size w w' → Calls Try.prog 10 #[uq] w' fun e w'' => e = .returned (.bool (checkQ qq 1)) ∧ Below w'.heap.size w' w'' := fun w' hb => rCheckQ_c qq uq w' (hq.keep hb)
  have cH : ∀ (r : Pr) (b : Bool) (ur : Value) (w' : World), Below w.heap.size w w' → HasQ w' ur r → checkQ r 1 = true → Tells r v b → Calls Try.prog 11 #[ur, uv] w' fun e w'' => e = .returned (.bool b) ∧ Below w'.heap.size w' w'' :=
    fun r b ur w' hb hr hc ht => pHoldsQ_c r v b ur uv w' m hr (hv.keep hb) ((hb.cell (p := ⟨maxG, 0, none⟩) hg).trans hm) hc ht
  have cK : ∀ (r : Pr) (ur : Value) (w' : World), HasQ w' ur r → Calls Try.prog 10 #[ur] w' fun e w'' => e = .returned (.bool (checkQ r 1)) ∧ Below w'.heap.size w' w'' := fun r ur w' hr => rCheckQ_c r ur w' hr
  unfold SomeEnds at c1 c2
  unfold WeighN at c3
  obtain ⟨B, capb, rfl, _⟩ := hv.open
  obtain ⟨A, c, K, kc, rfl, _⟩ := hp.open
  obtain ⟨A2, c2', K2, kc2, rfl, _⟩ := hq.open
  have hT := tells_any v hvs
  have hopp := op_some (q := pp) (d := 1)
  have hopq := op_some (q := qq) (d := 1)
  clear hv hm hvs
  generalize hN1 : min (qwt pp) (200 + 1) = N1 at *
  generalize hN2 : min (qwt qq) (200 + 1) = N2 at *
  generalize hN3 : min (wsz v) (200 + 1) = N3 at *
  clear hN1 hN2 hN3
  go_enter Try.func5, Try.ntmps5
  go_upto_region 1 with fail
  obtain ⟨w1, hw1⟩ : ∃ w1, w1 = ((w.alloc (.cells #[.string (st pp.op), .slice A pp.l.length c, .slice K pp.kids.length kc] 25)).alloc (.cells #[.string (st qq.op), .slice A2 qq.l.length c2', .slice K2 qq.kids.length kc2] 25)).alloc (.cells #[.int .i64 v.k, .bool v.b, .int .i64 v.n, .float .f64 v.f, .string (st v.s), .slice B v.l.length capb] 31) := ⟨_, rfl⟩
  have bk : Below w.heap.size w w1 := hw1 ▸ ((below_alloc w _).alloc (by simp) _).alloc (by simp <;> omega) _
  have px : PBox w1 w.heap.size pp.op A pp.l.length c K pp.kids.length kc := by constructor <;> (rw [hw1]; simp [go_sem])
  have py : PBox w1 (w.heap.size + 1) qq.op A2 qq.l.length c2' K2 qq.kids.length kc2 := by constructor <;> (rw [hw1]; simp [go_sem])
  have pz : Box w1 (w.heap.size + 1 + 1) v.k v.b v.n v.f v.s B v.l.length capb := by constructor <;> (rw [hw1]; simp [go_sem]) <;> rfl
  have hpw := hp.keep bk
  have hqw := hq.keep bk
  rw [← hw1]
  clear hw1 hp hq
  have px1 := px
  have py1 := py
  have pz1 := pz
  obtain ⟨x6, x0, x1, x2⟩ := px
  obtain ⟨y6, y0, y1, y2⟩ := py
  obtain ⟨z6, z0, z1, z2, z3, z4, z5⟩ := pz
  have d1 := fun p : In w1 => c1 p.w (p.back bk)
  have d2 := fun p : In w1 => c2 p.w (p.back bk)
  have d3 := fun p : In w1 => c3 p.w (p.back bk)
  have d4 := fun p : In w1 => c4 p.w (p.back bk)
  have d5 := fun p : In w1 => c5 p.w (p.back bk)
  have d0 := c1 w1 bk
  clear c1 c2 c3 c4 c5
  by_cases h1 : 200 < N1
  · have h1' : (200 : Int) < N1 := by omega
    clear d2 d3 d4 d5 hT hopp hopq hpw hqw
    clear cH cK
    go_wp2_with (first | ((with_reducible refine d0.mono ?_); rintro e w3 ⟨rfl, hb3⟩; (first | ((with_reducible obtain ⟨p, hw''⟩ := In.of2 p hb3); subst hw'') | (obtain ⟨p, hw''⟩ := In.of hb3; subst hw''))) | ((with_reducible refine (aw _).mono ?_); rintro e w3 ⟨rfl, hb3⟩; (first | ((with_reducible obtain ⟨p, hw''⟩ := In.of2 p hb3); subst hw'') | (obtain ⟨p, hw''⟩ := In.of hb3; subst hw''))))
    go_ret
    exact ⟨rfl, p.back bk⟩
  have h1' : ¬ (200 : Int) < N1 := by omega
  by_cases h2 : 200 < N2
  · have h2' : (200 : Int) < N2 := by omega
    clear d3 d4 d5 hT hopp hopq hpw hqw
    clear cH cK
    go_wp2_with (first | ((with_reducible refine d0.mono ?_); rintro e w3 ⟨rfl, hb3⟩; (first | ((with_reducible obtain ⟨p, hw''⟩ := In.of2 p hb3); subst hw'') | (obtain ⟨p, hw''⟩ := In.of hb3; subst hw''))) | ((with_reducible refine (d2 _).mono ?_); rintro e w3 ⟨rfl, hb3⟩; (first | ((with_reducible obtain ⟨p, hw''⟩ := In.of2 p hb3); subst hw'') | (obtain ⟨p, hw''⟩ := In.of hb3; subst hw''))) | ((with_reducible refine (aw _).mono ?_); rintro e w3 ⟨rfl, hb3⟩; (first | ((with_reducible obtain ⟨p, hw''⟩ := In.of2 p hb3); subst hw'') | (obtain ⟨p, hw''⟩ := In.of hb3; subst hw''))))
    go_ret
    exact ⟨rfl, p.back bk⟩
  have h2' : ¬ (200 : Int) < N2 := by omega
  by_cases h3 : 200 < N3
  · have h3' : (200 : Int) < N3 := by omega
    clear d4 d5 hT hopp hopq hpw hqw
    clear cH cK
    go_wp2_with (first | ((with_reducible refine d0.mono ?_); rintro e w3 ⟨rfl, hb3⟩; (first | ((with_reducible obtain ⟨p, hw''⟩ := In.of2 p hb3); subst hw'') | (obtain ⟨p, hw''⟩ := In.of hb3; subst hw''))) | ((with_reducible refine (d2 _).mono ?_); rintro e w3 ⟨rfl, hb3⟩; (first | ((with_reducible obtain ⟨p, hw''⟩ := In.of2 p hb3); subst hw'') | (obtain ⟨p, hw''⟩ := In.of hb3; subst hw''))) | ((with_reducible refine (d3 _).mono ?_); rintro e w3 ⟨rfl, hb3⟩; (first | ((with_reducible obtain ⟨p, hw''⟩ := In.of2 p hb3); subst hw'') | (obtain ⟨p, hw''⟩ := In.of hb3; subst hw''))) | ((with_reducible refine (aw _).mono ?_); rintro e w3 ⟨rfl, hb3⟩; (first | ((with_reducible obtain ⟨p, hw''⟩ := In.of2 p hb3); subst hw'') | (obtain ⟨p, hw''⟩ := In.of hb3; subst hw''))))
    go_ret
    exact ⟨rfl, p.back bk⟩
  have h3' : ¬ (200 : Int) < N3 := by omega
  by_cases h4 : checkQ pp 1 = true
  rotate_left
  · rw [Bool.not_eq_true] at h4
    rw [h4] at d4
    clear d5 hT hopp hopq hpw hqw h4
    clear cH cK
    go_wp2_with (first | ((with_reducible refine d0.mono ?_); rintro e w3 ⟨rfl, hb3⟩; (first | ((with_reducible obtain ⟨p, hw''⟩ := In.of2 p hb3); subst hw'') | (obtain ⟨p, hw''⟩ := In.of hb3; subst hw''))) | ((with_reducible refine (d2 _).mono ?_); rintro e w3 ⟨rfl, hb3⟩; (first | ((with_reducible obtain ⟨p, hw''⟩ := In.of2 p hb3); subst hw'') | (obtain ⟨p, hw''⟩ := In.of hb3; subst hw''))) | ((with_reducible refine (d3 _).mono ?_); rintro e w3 ⟨rfl, hb3⟩; (first | ((with_reducible obtain ⟨p, hw''⟩ := In.of2 p hb3); subst hw'') | (obtain ⟨p, hw''⟩ := In.of hb3; subst hw''))) | ((with_reducible refine (d4 _).mono ?_); rintro e w3 ⟨rfl, hb3⟩; (first | ((with_reducible obtain ⟨p, hw''⟩ := In.of2 p hb3); subst hw'') | (obtain ⟨p, hw''⟩ := In.of hb3; subst hw''))) | ((with_reducible refine (aw _).mono ?_); rintro e w3 ⟨rfl, hb3⟩; (first | ((with_reducible obtain ⟨p, hw''⟩ := In.of2 p hb3); subst hw'') | (obtain ⟨p, hw''⟩ := In.of hb3; subst hw''))))
    go_ret
    exact ⟨rfl, p.back bk⟩
  by_cases h5 : checkQ qq 1 = true
  rotate_left
  · rw [Bool.not_eq_true] at h5
    rw [h5] at d5
    rw [h4] at d4
    clear hT hopp hopq hpw hqw h4 h5
    clear cH cK
    go_wp2_with (first | ((with_reducible refine d0.mono ?_); rintro e w3 ⟨rfl, hb3⟩; (first | ((with_reducible obtain ⟨p, hw''⟩ := In.of2 p hb3); subst hw'') | (obtain ⟨p, hw''⟩ := In.of hb3; subst hw''))) | ((with_reducible refine (d2 _).mono ?_); rintro e w3 ⟨rfl, hb3⟩; (first | ((with_reducible obtain ⟨p, hw''⟩ := In.of2 p hb3); subst hw'') | (obtain ⟨p, hw''⟩ := In.of hb3; subst hw''))) | ((with_reducible refine (d3 _).mono ?_); rintro e w3 ⟨rfl, hb3⟩; (first | ((with_reducible obtain ⟨p, hw''⟩ := In.of2 p hb3); subst hw'') | (obtain ⟨p, hw''⟩ := In.of hb3; subst hw''))) | ((with_reducible refine (d4 _).mono ?_); rintro e w3 ⟨rfl, hb3⟩; (first | ((with_reducible obtain ⟨p, hw''⟩ := In.of2 p hb3); subst hw'') | (obtain ⟨p, hw''⟩ := In.of hb3; subst hw''))) | ((with_reducible refine (d5 _).mono ?_); rintro e w3 ⟨rfl, hb3⟩; (first | ((with_reducible obtain ⟨p, hw''⟩ := In.of2 p hb3); subst hw'') | (obtain ⟨p, hw''⟩ := In.of hb3; subst hw''))) | ((with_reducible refine (aw _).mono ?_); rintro e w3 ⟨rfl, hb3⟩; (first | ((with_reducible obtain ⟨p, hw''⟩ := In.of2 p hb3); subst hw'') | (obtain ⟨p, hw''⟩ := In.of hb3; subst hw''))))
    go_ret
    exact ⟨rfl, p.back bk⟩
  obtain ⟨a, ta⟩ := hT pp 1 h4
  obtain ⟨b, tb⟩ := hT qq 1 h5
  have hopp := hopp h4
  have hopq := hopq h5
  rw [h4] at d4
  rw [h5] at d5
  go_upto_region 3 with (first | ((with_reducible refine d0.mono ?_); rintro e w3 ⟨rfl, hb3⟩; (first | ((with_reducible obtain ⟨p, hw''⟩ := In.of2 p hb3); subst hw'') | (obtain ⟨p, hw''⟩ := In.of hb3; subst hw''))) | ((with_reducible refine (d2 _).mono ?_); rintro e w3 ⟨rfl, hb3⟩; (first | ((with_reducible obtain ⟨p, hw''⟩ := In.of2 p hb3); subst hw'') | (obtain ⟨p, hw''⟩ := In.of hb3; subst hw''))) | ((with_reducible refine (d3 _).mono ?_); rintro e w3 ⟨rfl, hb3⟩; (first | ((with_reducible obtain ⟨p, hw''⟩ := In.of2 p hb3); subst hw'') | (obtain ⟨p, hw''⟩ := In.of hb3; subst hw''))) | ((with_reducible refine (d4 _).mono ?_); rintro e w3 ⟨rfl, hb3⟩; (first | ((with_reducible obtain ⟨p, hw''⟩ := In.of2 p hb3); subst hw'') | (obtain ⟨p, hw''⟩ := In.of hb3; subst hw''))) | ((with_reducible refine (d5 _).mono ?_); rintro e w3 ⟨rfl, hb3⟩; (first | ((with_reducible obtain ⟨p, hw''⟩ := In.of2 p hb3); subst hw'') | (obtain ⟨p, hw''⟩ := In.of hb3; subst hw''))))
  clear d1 d0 d2 d3 d4 d5 h1' h2' h3' x6 x0 x1 x2 y6 y0 y1 y2 z6 z0 z1 z2 z3 z4 z5
  obtain ⟨w2, hw2⟩ : ∃ w2, w2 = p.w := ⟨_, rfl⟩
  have bk2 : Below w.heap.size w w2 := hw2 ▸ p.back bk
  have b12 : Below w1.heap.size w1 w2 := hw2 ▸ p.h
  rw [← hw2]
  clear hw2
  have px2 := px1.keep b12
  have py2 := py1.keep b12
  have pz2 := pz1.keep b12
  have hpw2 := hpw.keep b12
  have hqw2 := hqw.keep b12
  clear px1 py1 pz1 hpw hqw b12 bk
  have dHp := fun r : In w2 => cH pp a _ r.w (r.back bk2) (hpw2.keep r.h) h4 ta
  have dHq := fun r : In w2 => cH qq b _ r.w (r.back bk2) (hqw2.keep r.h) h5 tb
  have px := px2
  have py := py2
  have pz := pz2
  obtain ⟨x6, x0, x1, x2⟩ := px
  obtain ⟨y6, y0, y1, y2⟩ := py
  obtain ⟨z6, z0, z1, z2, z3, z4, z5⟩ := pz
  (refine wp_region_flow [] (by kernel_rfl) (by kernel_rfl) ?_; (repeat (((with_reducible refine wpFlow_steps ?_); intro K hK; go_simp; first | (with_reducible refine hK _ ?_; clear hK K) | (apply Exists.intro; (with_reducible refine ⟨fun _ => ⟨?_, _, rfl⟩, hK _ ?_⟩); (· exact rfl); clear hK K) | (apply Exists.intro; (with_reducible refine ⟨fun _ => ⟨_, rfl⟩, hK _ ?_⟩); clear hK K) | (apply Exists.intro; (with_reducible refine ⟨fun _ => ?_, hK _ ?_⟩); (· (with_reducible (first | exact dHp _ | exact dHq _))); clear hK K)))); (refine wpFlow_nil ?_; rintro w1 ⟨q0, hq0⟩; have hb := In.h q0; rw [← hq0] at hb; clear hq0 q0; (first | ((with_reducible obtain ⟨p, hw''⟩ := In.of2 p hb); subst hw'') | (obtain ⟨p, hw''⟩ := In.of hb; subst hw'')); go_simp; intros))
  go_upto_region 4 with fail
  clear dHp dHq x6 x0 x1 x2 y6 y0 y1 y2 z6 z0 z1 z2 z3 z4 z5
  obtain ⟨w3, hw3⟩ : ∃ w3, w3 = p.w := ⟨_, rfl⟩
  have bk3 : Below w.heap.size w w3 := hw3 ▸ p.back bk2
  have b23 : Below w2.heap.size w2 w3 := hw3 ▸ p.h
  rw [← hw3]
  clear hw3
  have px3 := px2.keep b23
  have py3 := py2.keep b23
  have pz3 := pz2.keep b23
  have hpw3 := hpw2.keep b23
  have hqw3 := hqw2.keep b23
  clear px2 py2 pz2 hpw2 hqw2 b23 bk2
  have px := px3
  have py := py3
  obtain ⟨x6, x0, x1, x2⟩ := px
  obtain ⟨y6, y0, y1, y2⟩ := py
  (refine wp_region_rst (14) [43, 44, 47, 48, 51, 52, 9, 10, 11] [43, 47, 51, 9, 10, 11] [(9, FillAt w3.heap.size (fun ad => #[.string (st [110, 111, 116]), .slice none 0 0, .slice (some ad) 1 1]) 25 (pcells pp.op A pp.l.length c K pp.kids.length kc) 25), (10, FillAt w3.heap.size (fun ad => #[.string (st [97, 110, 100]), .slice none 0 0, .slice (some ad) 2 2]) 25 (#[.string (st pp.op), .slice A pp.l.length c, .slice K pp.kids.length kc, .string (st qq.op), .slice A2 qq.l.length c2', .slice K2 qq.kids.length kc2]) 25), (11, FillAt w3.heap.size (fun ad => #[.string (st [111, 114]), .slice none 0 0, .slice (some ad) 2 2]) 25 (#[.string (st pp.op), .slice A pp.l.length c, .slice K pp.kids.length kc, .string (st qq.op), .slice A2 qq.l.length c2', .slice K2 qq.kids.length kc2]) 25)] ((.cells #[.string ⟨#[]⟩, .slice none 0 0, .slice none 0 0] 25)) (by kernel_rfl) (by kernel_rfl) (by kernel_rfl) (by kernel_rfl) (by kernel_rfl) ?_; (simp only [List.take_succ_cons, List.take_zero, List.drop_succ_cons, List.drop_zero]))
  ((with_reducible refine wpRel_none (by kernel_rfl) (by kernel_rfl) ?_); intro K hK; go_simp; first | (with_reducible refine hK _ ?_; clear hK K) | (apply Exists.intro; (with_reducible refine ⟨fun _ => ⟨?_, _, rfl⟩, hK _ ?_⟩); (· exact rfl); clear hK K) | (apply Exists.intro; (with_reducible refine ⟨fun _ => ?_, hK _ ?_⟩); (· (with_reducible (fail))); clear hK K))
  ((with_reducible refine wpRel_fact [] (43) (RowAt (w3.heap.size) ((pcells pp.op A pp.l.length c K pp.kids.length kc)) (25) (1)) (by kernel_rfl) rfl rfl (RowAt.steady _ _ _ _) (by first | exact rfl | go_simp) ?_ ?_); (· intro p; rw [pickR_nil]; (simp only [fillR]); go_wp2_with fail; exact row_post p.h.size rfl rfl))
  (with_reducible refine wpRel_fact [43] (44) ((BuiltAt w3.heap.size (fun ad => predV [110, 111, 116] none 0 0 (some ad) 1 1) (pcells pp.op A pp.l.length c K pp.kids.length kc) 25)) (by kernel_rfl) rfl rfl ((BuiltAt.steady _ _ _ _)) (by first | exact rfl | go_simp) (fun p => ?_) ?_)
  · (try simp only [pickR, pickR_nil, fillR, List.contains_cons, List.contains_nil, Nat.reduceBEq, Bool.or_false, Bool.or_true, Bool.true_or, Bool.false_or, if_true, if_false, Bool.false_eq_true])
    rintro u ⟨b, hb1, rfl, hb2⟩
    go_wp2_with fail
    exact ⟨fun h => (nomatch h), rfl, rfl, Below.refl _ _, b, hb1, rfl, hb2⟩
  ((with_reducible refine wpRel_none (by kernel_rfl) (by kernel_rfl) ?_); intro K hK; go_simp; first | (with_reducible refine hK _ ?_; clear hK K) | (apply Exists.intro; (with_reducible refine ⟨fun _ => ⟨?_, _, rfl⟩, hK _ ?_⟩); (· exact rfl); clear hK K) | (apply Exists.intro; (with_reducible refine ⟨fun _ => ?_, hK _ ?_⟩); (· (with_reducible (fail))); clear hK K))
  ((with_reducible refine wpRel_none (by kernel_rfl) (by kernel_rfl) ?_); intro K hK; go_simp; first | (with_reducible refine hK _ ?_; clear hK K) | (apply Exists.intro; (with_reducible refine ⟨fun _ => ⟨?_, _, rfl⟩, hK _ ?_⟩); (· exact rfl); clear hK K) | (apply Exists.intro; (with_reducible refine ⟨fun _ => ?_, hK _ ?_⟩); (· (with_reducible (fail))); clear hK K))
  ((with_reducible refine wpRel_fact [] (47) (RowAt (w3.heap.size) ((#[.string (st pp.op), .slice A pp.l.length c, .slice K pp.kids.length kc, .string (st qq.op), .slice A2 qq.l.length c2', .slice K2 qq.kids.length kc2])) (25) (2)) (by kernel_rfl) rfl rfl (RowAt.steady _ _ _ _) (by first | exact rfl | go_simp) ?_ ?_); (· intro p; rw [pickR_nil]; (simp only [fillR]); go_wp2_with fail; exact row_post p.h.size rfl rfl))
  (with_reducible refine wpRel_fact [47] (48) ((BuiltAt w3.heap.size (fun ad => predV [97, 110, 100] none 0 0 (some ad) 2 2) (#[.string (st pp.op), .slice A pp.l.length c, .slice K pp.kids.length kc, .string (st qq.op), .slice A2 qq.l.length c2', .slice K2 qq.kids.length kc2]) 25)) (by kernel_rfl) rfl rfl ((BuiltAt.steady _ _ _ _)) (by first | exact rfl | go_simp) (fun p => ?_) ?_)
  · (try simp only [pickR, pickR_nil, fillR, List.contains_cons, List.contains_nil, Nat.reduceBEq, Bool.or_false, Bool.or_true, Bool.true_or, Bool.false_or, if_true, if_false, Bool.false_eq_true])
    rintro u ⟨b, hb1, rfl, hb2⟩
    go_wp2_with fail
    exact ⟨fun h => (nomatch h), rfl, rfl, Below.refl _ _, b, hb1, rfl, hb2⟩
  ((with_reducible refine wpRel_none (by kernel_rfl) (by kernel_rfl) ?_); intro K hK; go_simp; first | (with_reducible refine hK _ ?_; clear hK K) | (apply Exists.intro; (with_reducible refine ⟨fun _ => ⟨?_, _, rfl⟩, hK _ ?_⟩); (· exact rfl); clear hK K) | (apply Exists.intro; (with_reducible refine ⟨fun _ => ?_, hK _ ?_⟩); (· (with_reducible (fail))); clear hK K))
  ((with_reducible refine wpRel_none (by kernel_rfl) (by kernel_rfl) ?_); intro K hK; go_simp; first | (with_reducible refine hK _ ?_; clear hK K) | (apply Exists.intro; (with_reducible refine ⟨fun _ => ⟨?_, _, rfl⟩, hK _ ?_⟩); (· exact rfl); clear hK K) | (apply Exists.intro; (with_reducible refine ⟨fun _ => ?_, hK _ ?_⟩); (· (with_reducible (fail))); clear hK K))
  ((with_reducible refine wpRel_fact [] (51) (RowAt (w3.heap.size) ((#[.string (st pp.op), .slice A pp.l.length c, .slice K pp.kids.length kc, .string (st qq.op), .slice A2 qq.l.length c2', .slice K2 qq.kids.length kc2])) (25) (2)) (by kernel_rfl) rfl rfl (RowAt.steady _ _ _ _) (by first | exact rfl | go_simp) ?_ ?_); (· intro p; rw [pickR_nil]; (simp only [fillR]); go_wp2_with fail; exact row_post p.h.size rfl rfl))
  (with_reducible refine wpRel_fact [51] (52) ((BuiltAt w3.heap.size (fun ad => predV [111, 114] none 0 0 (some ad) 2 2) (#[.string (st pp.op), .slice A pp.l.length c, .slice K pp.kids.length kc, .string (st qq.op), .slice A2 qq.l.length c2', .slice K2 qq.kids.length kc2]) 25)) (by kernel_rfl) rfl rfl ((BuiltAt.steady _ _ _ _)) (by first | exact rfl | go_simp) (fun p => ?_) ?_)
  · (try simp only [pickR, pickR_nil, fillR, List.contains_cons, List.contains_nil, Nat.reduceBEq, Bool.or_false, Bool.or_true, Bool.true_or, Bool.false_or, if_true, if_false, Bool.false_eq_true])
    rintro u ⟨b, hb1, rfl, hb2⟩
    go_wp2_with fail
    exact ⟨fun h => (nomatch h), rfl, rfl, Below.refl _ _, b, hb1, rfl, hb2⟩
  ((with_reducible refine wpRel_fact [] (9) (VarAt (w3.heap.size) (#[.string ⟨#[]⟩, .slice none 0 0, .slice none 0 0]) (25)) (by kernel_rfl) rfl rfl (VarAt.steady _ _ _) (by first | exact rfl | go_simp) ?_ ?_); (· intro p; rw [pickR_nil]; (simp only [fillR]); go_wp2_with fail; exact var_post p.h.size rfl rfl))
  ((with_reducible refine wpRel_fact [] (10) (VarAt (w3.heap.size) (#[.string ⟨#[]⟩, .slice none 0 0, .slice none 0 0]) (25)) (by kernel_rfl) rfl rfl (VarAt.steady _ _ _) (by first | exact rfl | go_simp) ?_ ?_); (· intro p; rw [pickR_nil]; (simp only [fillR]); go_wp2_with fail; exact var_post p.h.size rfl rfl))
  ((with_reducible refine wpRel_fact [] (11) (VarAt (w3.heap.size) (#[.string ⟨#[]⟩, .slice none 0 0, .slice none 0 0]) (25)) (by kernel_rfl) rfl rfl (VarAt.steady _ _ _) (by first | exact rfl | go_simp) ?_ ?_); (· intro p; rw [pickR_nil]; (simp only [fillR]); go_wp2_with fail; exact var_post p.h.size rfl rfl))
  ((with_reducible refine wpRel_nil ⟨?_, ?_, ?_⟩))
  · exact ⟨VarAt.tough, VarAt.tough, VarAt.tough, BuiltAt.tough row2_ne, RowAt.tough row2_ne, BuiltAt.tough row2_ne, RowAt.tough row2_ne, BuiltAt.tough (row1_ne hopp), RowAt.tough (row1_ne hopp), trivial⟩
  · refine ⟨⟨⟨[44, 9], by kernel_rfl, fun p => ?_⟩, FillAt.steady _ _ _ _ _, FillAt.tough (row1_ne hopp)⟩, ⟨⟨[48, 10], by kernel_rfl, fun p => ?_⟩, FillAt.steady _ _ _ _ _, FillAt.tough row2_ne⟩, ⟨⟨[52, 11], by kernel_rfl, fun p => ?_⟩, FillAt.steady _ _ _ _ _, FillAt.tough row2_ne⟩, trivial⟩
    · (try simp only [pickR, pickR_nil, fillR, List.contains_cons, List.contains_nil, Nat.reduceBEq, Bool.or_false, Bool.or_true, Bool.true_or, Bool.false_or, if_true, if_false, Bool.false_eq_true])
      rintro ua ⟨b, hb1, rfl, hb2⟩ ub ⟨b', hb3, rfl, hb4⟩
      have z0 := cell_of hb2 0
      have z1 := cell_of hb2 1
      have z2 := cell_of hb2 2
      have q0 := frozen_of hb2 0
      have q1 := frozen_of hb2 1
      have q2 := frozen_of hb2 2
      have zl := (Array.getElem?_eq_some_iff.1 hb2).1
      simp at z0 z1 z2
      go_wp2_with fail
      exact fill_post rfl hb1 hb2 hb3 hb4 (row1_ne hopp) rfl
    · (try simp only [pickR, pickR_nil, fillR, List.contains_cons, List.contains_nil, Nat.reduceBEq, Bool.or_false, Bool.or_true, Bool.true_or, Bool.false_or, if_true, if_false, Bool.false_eq_true])
      rintro ua ⟨b, hb1, rfl, hb2⟩ ub ⟨b', hb3, rfl, hb4⟩
      have z0 := cell_of hb2 0
      have z1 := cell_of hb2 1
      have z2 := cell_of hb2 2
      have q0 := frozen_of hb2 0
      have q1 := frozen_of hb2 1
      have q2 := frozen_of hb2 2
      have zl := (Array.getElem?_eq_some_iff.1 hb2).1
      simp at z0 z1 z2
      go_wp2_with fail
      exact fill_post rfl hb1 hb2 hb3 hb4 row2_ne rfl
    · (try simp only [pickR, pickR_nil, fillR, List.contains_cons, List.contains_nil, Nat.reduceBEq, Bool.or_false, Bool.or_true, Bool.true_or, Bool.false_or, if_true, if_false, Bool.false_eq_true])
      rintro ua ⟨b, hb1, rfl, hb2⟩ ub ⟨b', hb3, rfl, hb4⟩
      have z0 := cell_of hb2 0
      have z1 := cell_of hb2 1
      have z2 := cell_of hb2 2
      have q0 := frozen_of hb2 0
      have q1 := frozen_of hb2 1
      have q2 := frozen_of hb2 2
      have zl := (Array.getElem?_eq_some_iff.1 hb2).1
      simp at z0 z1 z2
      go_wp2_with fail
      exact fill_post rfl hb1 hb2 hb3 hb4 row2_ne rfl
  · intro p
    (simp only [refill, swap, List.map_cons, List.map_nil, Nat.reduceBEq, if_true, if_false, Bool.false_eq_true, fillR])
    rintro u11 ⟨b11, d11, _, _, rfl, h11, k11⟩ u10 ⟨b10, d10, _, _, rfl, h10, k10⟩ u9 ⟨b9, d9, _, _, rfl, h9, k9⟩ u52 _ u51 _ u48 _ u47 _ u44 _ u43 _
    intro _
    obtain ⟨w4, hw4⟩ : ∃ w4, w4 = p.w := ⟨_, rfl⟩
    have bk4 : Below w.heap.size w w4 := hw4 ▸ p.back bk3
    have b34 : Below w3.heap.size w3 w4 := hw4 ▸ p.h
    rw [← hw4] at h11 k11 h10 k10 h9 k9 ⊢
    clear hw4
    have pz4 := pz3.keep b34
    have hpw4 := hpw3.keep b34
    have hqw4 := hqw3.keep b34
    clear px3 py3 pz3 hpw3 hqw3 b34 bk3 x6 x0 x1 x2 y6 y0 y1 y2
    have hno := hasQ_one (op := [110, 111, 116]) (by simp) hpw4 k9
    have hboth := hasQ_two (op := [97, 110, 100]) (by simp) hpw4 hqw4 k10
    have hone := hasQ_two (op := [111, 114]) (by simp) hpw4 hqw4 k11
    have tno := tells_not v pp a ta
    have tboth := tells_and v pp qq a b ta tb
    have tone := tells_or v pp qq a b ta tb
    obtain ⟨n6, n0, n1, n2⟩ := pbox_cells h9
    obtain ⟨o6, o0, o1, o2⟩ := pbox_cells h10
    obtain ⟨r6, r0, r1, r2⟩ := pbox_cells h11
    obtain ⟨z6, z0, z1, z2, z3, z4, z5⟩ := pz4
    have e1 := fun r : In w4 => cK _ _ r.w (hno.keep r.h)
    have e2 := fun r : In w4 => cK _ _ r.w (hboth.keep r.h)
    have e3 := fun r : In w4 => cK _ _ r.w (hone.keep r.h)
    have f1 := fun (r : In w4) hc => cH _ _ _ r.w (r.back bk4) (hno.keep r.h) hc tno
    have f2 := fun (r : In w4) hc => cH _ _ _ r.w (r.back bk4) (hboth.keep r.h) hc tboth
    have f3 := fun (r : In w4) hc => cH _ _ _ r.w (r.back bk4) (hone.keep r.h) hc tone
    clear h11 k11 h10 k10 h9 k9 hno hboth hone tno tboth tone hpw4 hqw4 cH cK ta tb hT
    generalize checkQ (.mk [110, 111, 116] [] [pp]) 1 = s1 at *
    generalize checkQ (.mk [97, 110, 100] [] [pp, qq]) 1 = s2 at *
    generalize checkQ (.mk [111, 114] [] [pp, qq]) 1 = s3 at *
    go_simp
    clear hopp hopq h1 h2 h3 h4 h5
    have aw4 := aw w4
    cases a
    all_goals cases s1
    all_goals cases s2
    all_goals cases s3
    all_goals simp only [Bool.not_false, Bool.not_true, Bool.false_and, Bool.true_and, Bool.false_or, Bool.true_or, forall_const, Bool.false_eq_true, false_implies, implies_true] at f1 f2 f3
    all_goals go_wp2_with (first | ((with_reducible refine aw4.mono ?_); rintro e w3 ⟨rfl, hb3⟩; (first | ((with_reducible obtain ⟨p, hw''⟩ := In.of2 p hb3); subst hw'') | (obtain ⟨p, hw''⟩ := In.of hb3; subst hw''))) | ((with_reducible refine (e1 _).mono ?_); rintro e w3 ⟨rfl, hb3⟩; (first | ((with_reducible obtain ⟨p, hw''⟩ := In.of2 p hb3); subst hw'') | (obtain ⟨p, hw''⟩ := In.of hb3; subst hw''))) | ((with_reducible refine (f1 _).mono ?_); rintro e w3 ⟨rfl, hb3⟩; (first | ((with_reducible obtain ⟨p, hw''⟩ := In.of2 p hb3); subst hw'') | (obtain ⟨p, hw''⟩ := In.of hb3; subst hw''))) | ((with_reducible refine (e2 _).mono ?_); rintro e w3 ⟨rfl, hb3⟩; (first | ((with_reducible obtain ⟨p, hw''⟩ := In.of2 p hb3); subst hw'') | (obtain ⟨p, hw''⟩ := In.of hb3; subst hw''))) | ((with_reducible refine (f2 _).mono ?_); rintro e w3 ⟨rfl, hb3⟩; (first | ((with_reducible obtain ⟨p, hw''⟩ := In.of2 p hb3); subst hw'') | (obtain ⟨p, hw''⟩ := In.of hb3; subst hw''))) | ((with_reducible refine (e3 _).mono ?_); rintro e w3 ⟨rfl, hb3⟩; (first | ((with_reducible obtain ⟨p, hw''⟩ := In.of2 p hb3); subst hw'') | (obtain ⟨p, hw''⟩ := In.of hb3; subst hw''))) | ((with_reducible refine (f3 _).mono ?_); rintro e w3 ⟨rfl, hb3⟩; (first | ((with_reducible obtain ⟨p, hw''⟩ := In.of2 p hb3); subst hw'') | (obtain ⟨p, hw''⟩ := In.of hb3; subst hw''))))
    all_goals go_ret
    all_goals exact ⟨ret_bool (by simp), p.back bk4⟩
end Go.Proofs.Ytglcnnnjdkjggaa
