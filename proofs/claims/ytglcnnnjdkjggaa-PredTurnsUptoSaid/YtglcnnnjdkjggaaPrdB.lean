
/-
  Predicates of one value: what they tell.
-/
import Derived.Test.YtglcnnnjdkjggaaPrdA
import Derived.Test.YtglcnnnjdkjggaaValP
set_option linter.unusedSimpArgs false
set_option linter.unusedVariables false
namespace Go.Proofs.Ytglcnnnjdkjggaa
open Go.RowKit

def eqV (a b : Val) : Bool := cmpV a b == 0
/-- is a value one of some? -/
def anyV (v : Val) (l : List Val) : Bool := l.any (eqV v)
theorem anyV_snoc {v : Val} {l : List Val} {i : Nat} {x : Val} (h : l[i]? = some x) : anyV v (l.take (i + 1)) = (anyV v (l.take i) || eqV v x) := by
  obtain ⟨hi, rfl⟩ := List.getElem?_eq_some_iff.1 h
  unfold anyV
  rw [List.take_succ_eq_append_getElem hi, List.any_append]
  simp
abbrev holdF (b : Nat) : Value := .func (.func 30) #[] #[.pointer (some ⟨b, 0, none⟩)]
set_option maxRecDepth 8000 in
theorem in1_c (g : Nat) (v x : Val) (k : Int) (b : Bool) (n : Int) (f : Nat) (s : List UInt8) (B : Option Addr) (len c : Nat) (k' : Int) (b' : Bool) (n' : Int) (f' : Nat) (s' : List UInt8) (B' : Option Addr) (len' c' : Nat) (w : World) (hg : Box w g k b n f s B len c) (hv : Has w (valV k b n f s B len c) v) (hx : Has w (valV k' b' n' f' s' B' len' c') x) :
    Calls Try.prog 30 #[valV k' b' n' f' s' B' len' c', .pointer (some ⟨g, 0, none⟩)] w fun e w' => e = .returned (.bool (eqV v x)) ∧ Below w.heap.size w w' := by
  have cs : ∀ w', Below w.heap.size w w' → Calls Try.prog 31 #[valV k b n f s B len c, valV k' b' n' f' s' B' len' c'] w' fun e w'' => e = .returned (.bool (eqV v x)) ∧ Below w'.heap.size w' w'' :=
    fun w' hb => samev_c v x _ _ w' (hv.keep hb) (hx.keep hb)
  have hgk := hg.keep (below_alloc w (.cells #[.int .i64 k', .bool b', .int .i64 n', .float .f64 f', .string (st s'), .slice B' len' c'] 31))
  obtain ⟨q6, q0, q1, q2, q3, q4, q5⟩ := hgk
  clear hv hx hg
  go_enter Try.func30, Try.ntmps30
  go_wp2_with ((with_reducible refine (cs _ (below_alloc _ _)).mono ?_); rintro e w2 ⟨rfl, hb2⟩)
  go_ret
  exact ⟨rfl, (below_alloc _ _).trans (hb2.mono (below_alloc _ _).size)⟩
set_option maxRecDepth 8000 in
set_option maxHeartbeats 4000000 in
theorem indexIn_c (g : Nat) (v : Val) (k : Int) (b : Bool) (n : Int) (f : Nat) (s : List UInt8) (B : Option Addr) (len c : Nat) (l : List Val) (A : Option Addr) (cap : Nat) (w : World) (hg : Box w g k b n f s B len c) (hv : Has w (valV k b n f s B len c) v) (hp : Parts w A l) (hl : l.length ≤ maxLen) :
    Calls Try.prog 41 #[.slice A l.length cap, holdF g] w (IndexEnds (anyV v l) w) := by
  unfold maxLen at hl
  go_enter Try.func41, Try.ntmps41
  go_wp2_with fail
  go_loopw [8] (fun a8 wr => ∃ i : Nat, a8 = .int .i64 i ∧ i ≤ l.length ∧ Hid (anyV v (l.take i) = false) ∧ Below w.heap.size w wr) (fun a _ => l.length - (intOf a).toNat)
  case atStart => exact ⟨0, rfl, Nat.zero_le _, rfl, Below.refl _ _⟩
  case round =>
    obtain ⟨i, rfl, hi, hno, hbr⟩ := hrel
    by_cases hil : i < l.length
    · have hil' : (i : Int) < l.length := by omega
      obtain ⟨ad, k', b', n', f', s', B', len', c', rfl, hx, hat⟩ := hp i l[i] (by simp)
      obtain ⟨q6, q0, q1, q2, q3, q4, q5⟩ := hat.keep hbr
      have cs := in1_c g v l[i] k b n f s B len c k' b' n' f' s' B' len' c' wr (hg.keep hbr) (hv.keep hbr) (hx.keep hbr)
      have hst := Lib.hid (anyV_snoc (v := v) (l := l) (i := i) (x := l[i]) (by simp))
      have wi : IntKind.i64.wrap ((i : Int) + 1) = (i : Int) + 1 := by rw [wrap_i64]; omega
      have hle : ∀ j, anyV v (l.take j) = true → anyV v l = true := fun j h => by
        unfold anyV at h ⊢
        rw [List.any_eq_true] at h ⊢
        obtain ⟨y, h1, h2⟩ := h
        exact ⟨y, List.mem_of_mem_take h1, h2⟩
      generalize l[i] = x at *
      clear hat hx hp hv hg
      cases he : eqV v x
      · rw [he] at cs
        go_wp2_with ((with_reducible refine cs.mono ?_); rintro e w2 ⟨rfl, hb2⟩)
        refine ⟨⟨i + 1, rfl, hil, ?_, hbr.trans (hb2.mono hbr.size)⟩, by simp [intOf]; omega⟩
        show _ = _
        rw [hst.out, hno.out, he]; rfl
      · rw [he] at cs
        have hyes := Lib.hid (hle (i + 1) (by rw [hst.out, he]; simp))
        clear hle
        go_wp2_with ((with_reducible refine cs.mono ?_); rintro e w2 ⟨rfl, hb2⟩)
        go_ret
        exact ⟨_, rfl, by rw [hyes.out]; simp, hbr.trans (hb2.mono hbr.size)⟩
    · have hil' : ¬ (i : Int) < l.length := by omega
      have hf := hno.out
      rw [List.take_of_length_le (by omega)] at hf
      have hF := Lib.hid hf
      clear hf hp hv hg hno
      go_wp2_with fail
      go_ret
      exact ⟨_, rfl, by rw [hF.out]; rfl, hbr⟩
set_option maxRecDepth 8000 in
set_option maxHeartbeats 4000000 in
theorem containsIn_c (g : Nat) (v : Val) (k : Int) (b : Bool) (n : Int) (f : Nat) (s : List UInt8) (B : Option Addr) (len c : Nat) (l : List Val) (A : Option Addr) (cap : Nat) (w : World) (hg : Box w g k b n f s B len c) (hv : Has w (valV k b n f s B len c) v) (hp : Parts w A l) (hl : l.length ≤ maxLen) :
    Calls Try.prog 24 #[.slice A l.length cap, holdF g] w fun e w' => e = .returned (.bool (anyV v l)) ∧ Below w.heap.size w w' := by
  have cs : Calls Try.prog 41 #[.slice A l.length cap, holdF g] w fun e w' => ∃ r : Int, e = .returned (.int .i64 r) ∧ decide (0 ≤ r) = anyV v l ∧ Below w.heap.size w w' := indexIn_c g v k b n f s B len c l A cap w hg hv hp hl
  clear hg hv hp
  go_enter Try.func24, Try.ntmps24
  go_wp2_with ((with_reducible refine cs.mono ?_); rintro e w2 ⟨r, rfl, hd, hb2⟩)
  go_ret
  exact ⟨rfl, hb2⟩

set_option maxRecDepth 8000 in
theorem pnumber_c (k : Int) (b : Bool) (n : Int) (f : Nat) (s : List UInt8) (B : Option Addr) (len c : Nat) (w : World) : Calls Try.prog 64 #[valV k b n f s B len c] w fun e w' => e = .returned (.bool (k == 2 || k == 3)) ∧ Below w.heap.size w w' := by
  by_cases h2 : k = 2
  · subst h2
    go_enter Try.func64, Try.ntmps64
    go_wp2_with fail
    go_ret
    exact ⟨rfl, below_alloc _ _⟩
  · have h2' : (k == 2) = false := by simpa using h2
    by_cases h3 : k = 3
    · subst h3
      go_enter Try.func64, Try.ntmps64
      go_wp2_with fail
      go_ret
      exact ⟨rfl, below_alloc _ _⟩
    · have h3' : (k == 3) = false := by simpa using h3
      go_enter Try.func64, Try.ntmps64
      go_wp2_with fail
      go_ret
      exact ⟨ret_bool (by rw [h2', h3']; rfl), below_alloc _ _⟩
def alikeV (a b : Val) : Bool := rcls a.k == rcls b.k
theorem alike_is (x y : Int) : (rcls x == rcls y) = (x == y || ((x == 2 || x == 3) && (y == 2 || y == 3))) := by
  rw [Bool.eq_iff_iff]
  simp only [beq_iff_eq, Bool.or_eq_true, Bool.and_eq_true]
  unfold rcls
  split <;> split <;> omega
set_option maxRecDepth 8000 in
set_option maxHeartbeats 1000000 in
theorem alike_c (k : Int) (b : Bool) (n : Int) (f : Nat) (s : List UInt8) (B : Option Addr) (len c : Nat) (k' : Int) (b' : Bool) (n' : Int) (f' : Nat) (s' : List UInt8) (B' : Option Addr) (len' c' : Nat) (w : World) : Calls Try.prog 46 #[valV k b n f s B len c, valV k' b' n' f' s' B' len' c'] w fun e w' => e = .returned (.bool (rcls k == rcls k')) ∧ Below w.heap.size w w' := by
  have hr := alike_is k k'
  have hr := Lib.hid hr
  have c1 := fun w => pnumber_c k b n f s B len c w
  have c2 := fun w => pnumber_c k' b' n' f' s' B' len' c' w
  generalize hq1 : (k == 2 || k == 3) = q1 at *
  generalize hq2 : (k' == 2 || k' == 3) = q2 at *
  clear hq1 hq2
  by_cases he : k = k'
  · have he' : (k == k') = true := by simpa using he
    clear c1 c2
    go_enter Try.func46, Try.ntmps46
    go_wp2_with fail
    go_ret
    exact ⟨ret_bool (by rw [hr.out, he']; rfl), (below_alloc w _).alloc (by simp) _⟩
  · have he' : (k == k') = false := by simpa using he
    go_enter Try.func46, Try.ntmps46
    go_upto_region 1 with fail
    obtain ⟨w1, hw1⟩ : ∃ w1, w1 = (w.alloc (.cells #[.int .i64 k, .bool b, .int .i64 n, .float .f64 f, .string (st s), .slice B len c] 31)).alloc (.cells #[.int .i64 k', .bool b', .int .i64 n', .float .f64 f', .string (st s'), .slice B' len' c'] 31) := ⟨_, rfl⟩
    have bk : Below w.heap.size w w1 := hw1 ▸ (below_alloc w _).alloc (by simp) _
    obtain ⟨x6, x0, x1, x2, x3, x4, x5⟩ : Box w1 w.heap.size k b n f s B len c := hw1 ▸ (Box.new w k b n f s B len c _).keep (below_alloc _ _)
    obtain ⟨y6, y0, y1, y2, y3, y4, y5⟩ : Box w1 (w.heap.size + 1) k' b' n' f' s' B' len' c' := hw1 ▸ Box.new2 w k' b' n' f' s' B' len' c' _ _
    rw [← hw1]
    clear hw1
    cases q1
    · go_wp2_with (first | ((with_reducible refine (c1 _).mono ?_); rintro e w2 ⟨rfl, hb2⟩; (first | ((with_reducible obtain ⟨p, hw''⟩ := In.of2 p hb2); subst hw'') | (obtain ⟨p, hw''⟩ := In.of hb2; subst hw''))) | ((with_reducible refine (c2 _).mono ?_); rintro e w3 ⟨rfl, hb3⟩; (first | ((with_reducible obtain ⟨p, hw''⟩ := In.of2 p hb3); subst hw'') | (obtain ⟨p, hw''⟩ := In.of hb3; subst hw''))))
      go_ret
      exact ⟨ret_bool (by rw [hr.out, he']; rfl), p.back bk⟩
    · go_wp2_with (first | ((with_reducible refine (c1 _).mono ?_); rintro e w2 ⟨rfl, hb2⟩; (first | ((with_reducible obtain ⟨p, hw''⟩ := In.of2 p hb2); subst hw'') | (obtain ⟨p, hw''⟩ := In.of hb2; subst hw''))) | ((with_reducible refine (c2 _).mono ?_); rintro e w3 ⟨rfl, hb3⟩; (first | ((with_reducible obtain ⟨p, hw''⟩ := In.of2 p hb3); subst hw'') | (obtain ⟨p, hw''⟩ := In.of hb3; subst hw''))))
      go_ret
      exact ⟨ret_bool (by rw [hr.out, he']; simp), p.back bk⟩
theorem below_c (c : Int) (w : World) : Calls Try.prog 33 #[.int .i64 c] w fun e w' => e = .returned (.bool (decide (c < 0))) ∧ Below w.heap.size w w' := by
  go_enter Try.func33, Try.ntmps33
  go_wp2_with fail
  go_ret
  exact ⟨rfl, Below.refl _ _⟩
theorem above_c (c : Int) (w : World) : Calls Try.prog 35 #[.int .i64 c] w fun e w' => e = .returned (.bool (decide (0 < c))) ∧ Below w.heap.size w w' := by
  go_enter Try.func35, Try.ntmps35
  go_wp2_with fail
  go_ret
  exact ⟨rfl, Below.refl _ _⟩
theorem notAbove_c (c : Int) (w : World) : Calls Try.prog 34 #[.int .i64 c] w fun e w' => e = .returned (.bool (decide (c ≤ 0))) ∧ Below w.heap.size w w' := by
  go_enter Try.func34, Try.ntmps34
  go_wp2_with fail
  go_ret
  exact ⟨rfl, Below.refl _ _⟩
theorem notBelow_c (c : Int) (w : World) : Calls Try.prog 36 #[.int .i64 c] w fun e w' => e = .returned (.bool (decide (0 ≤ c))) ∧ Below w.heap.size w w' := by
  go_enter Try.func36, Try.ntmps36
  go_wp2_with fail
  go_ret
  exact ⟨rfl, Below.refl _ _⟩
set_option maxRecDepth 8000 in
set_option maxHeartbeats 1000000 in
theorem order_below_c (u : Value) (a : Val) (v : Value) (b : Val) (w : World) (hu : Has w u a) (hv : Has w v b) : Calls Try.prog 32 #[u, v, .func (.func 33) #[] #[]] w fun e w' => e = .returned (.bool (alikeV a b && decide (cmpV a b < 0))) ∧ Below w.heap.size w w' := by
  have c1 : ∀ w', Below w.heap.size w w' → Calls Try.prog 45 #[u, v] w' (IntEnds (cmpV a b) w') := fun w' h => cmpv_c a b u v w' (hu.keep h) (hv.keep h)
  unfold IntEnds at c1
  have hal : alikeV a b = (rcls a.k == rcls b.k) := rfl
  obtain ⟨A, capa, rfl, _⟩ := hu.open
  obtain ⟨B, capb, rfl, _⟩ := hv.open
  have c2 := fun w => alike_c a.k a.b a.n a.f a.s A a.l.length capa b.k b.b b.n b.f b.s B b.l.length capb w
  rw [← hal] at c2
  have c3 := fun c w => below_c c w
  clear hu hv hal
  generalize cmpV a b = c at *
  generalize alikeV a b = q at *
  go_enter Try.func32, Try.ntmps32
  go_upto_region 1 with fail
  obtain ⟨w1, hw1⟩ : ∃ w1, w1 = (w.alloc (.cells #[.int .i64 a.k, .bool a.b, .int .i64 a.n, .float .f64 a.f, .string (st a.s), .slice A a.l.length capa] 31)).alloc (.cells #[.int .i64 b.k, .bool b.b, .int .i64 b.n, .float .f64 b.f, .string (st b.s), .slice B b.l.length capb] 31) := ⟨_, rfl⟩
  have bk : Below w.heap.size w w1 := hw1 ▸ (below_alloc w _).alloc (by simp) _
  obtain ⟨x6, x0, x1, x2, x3, x4, x5⟩ : Box w1 w.heap.size a.k a.b a.n a.f a.s A a.l.length capa := hw1 ▸ (Box.new w a.k a.b a.n a.f a.s A a.l.length capa _).keep (below_alloc _ _)
  obtain ⟨y6, y0, y1, y2, y3, y4, y5⟩ : Box w1 (w.heap.size + 1) b.k b.b b.n b.f b.s B b.l.length capb := hw1 ▸ Box.new2 w b.k b.b b.n b.f b.s B b.l.length capb _ _
  rw [← hw1]
  clear hw1
  have d1 := fun p : In w1 => c1 p.w (p.back bk)
  clear c1
  cases q
  · go_wp2_with (first | ((with_reducible refine (c2 _).mono ?_); rintro e w2 ⟨rfl, hb2⟩; (first | ((with_reducible obtain ⟨p, hw''⟩ := In.of2 p hb2); subst hw'') | (obtain ⟨p, hw''⟩ := In.of hb2; subst hw''))))
    go_ret
    exact ⟨rfl, p.back bk⟩
  · go_wp2_with (first | ((with_reducible refine (c2 _).mono ?_); rintro e w2 ⟨rfl, hb2⟩; (first | ((with_reducible obtain ⟨p, hw''⟩ := In.of2 p hb2); subst hw'') | (obtain ⟨p, hw''⟩ := In.of hb2; subst hw''))) | ((with_reducible refine (d1 _).mono ?_); rintro e w3 ⟨rfl, hb3⟩; (first | ((with_reducible obtain ⟨p, hw''⟩ := In.of2 p hb3); subst hw'') | (obtain ⟨p, hw''⟩ := In.of hb3; subst hw''))) | ((with_reducible refine (c3 _ _).mono ?_); rintro e w4 ⟨rfl, hb4⟩; (first | ((with_reducible obtain ⟨p, hw''⟩ := In.of2 p hb4); subst hw'') | (obtain ⟨p, hw''⟩ := In.of hb4; subst hw''))))
    go_ret
    exact ⟨rfl, p.back bk⟩
set_option maxRecDepth 8000 in
set_option maxHeartbeats 1000000 in
theorem order_above_c (u : Value) (a : Val) (v : Value) (b : Val) (w : World) (hu : Has w u a) (hv : Has w v b) : Calls Try.prog 32 #[u, v, .func (.func 35) #[] #[]] w fun e w' => e = .returned (.bool (alikeV a b && decide (0 < cmpV a b))) ∧ Below w.heap.size w w' := by
  have c1 : ∀ w', Below w.heap.size w w' → Calls Try.prog 45 #[u, v] w' (IntEnds (cmpV a b) w') := fun w' h => cmpv_c a b u v w' (hu.keep h) (hv.keep h)
  unfold IntEnds at c1
  have hal : alikeV a b = (rcls a.k == rcls b.k) := rfl
  obtain ⟨A, capa, rfl, _⟩ := hu.open
  obtain ⟨B, capb, rfl, _⟩ := hv.open
  have c2 := fun w => alike_c a.k a.b a.n a.f a.s A a.l.length capa b.k b.b b.n b.f b.s B b.l.length capb w
  rw [← hal] at c2
  have c3 := fun c w => above_c c w
  clear hu hv hal
  generalize cmpV a b = c at *
  generalize alikeV a b = q at *
  go_enter Try.func32, Try.ntmps32
  go_upto_region 1 with fail
  obtain ⟨w1, hw1⟩ : ∃ w1, w1 = (w.alloc (.cells #[.int .i64 a.k, .bool a.b, .int .i64 a.n, .float .f64 a.f, .string (st a.s), .slice A a.l.length capa] 31)).alloc (.cells #[.int .i64 b.k, .bool b.b, .int .i64 b.n, .float .f64 b.f, .string (st b.s), .slice B b.l.length capb] 31) := ⟨_, rfl⟩
  have bk : Below w.heap.size w w1 := hw1 ▸ (below_alloc w _).alloc (by simp) _
  obtain ⟨x6, x0, x1, x2, x3, x4, x5⟩ : Box w1 w.heap.size a.k a.b a.n a.f a.s A a.l.length capa := hw1 ▸ (Box.new w a.k a.b a.n a.f a.s A a.l.length capa _).keep (below_alloc _ _)
  obtain ⟨y6, y0, y1, y2, y3, y4, y5⟩ : Box w1 (w.heap.size + 1) b.k b.b b.n b.f b.s B b.l.length capb := hw1 ▸ Box.new2 w b.k b.b b.n b.f b.s B b.l.length capb _ _
  rw [← hw1]
  clear hw1
  have d1 := fun p : In w1 => c1 p.w (p.back bk)
  clear c1
  cases q
  · go_wp2_with (first | ((with_reducible refine (c2 _).mono ?_); rintro e w2 ⟨rfl, hb2⟩; (first | ((with_reducible obtain ⟨p, hw''⟩ := In.of2 p hb2); subst hw'') | (obtain ⟨p, hw''⟩ := In.of hb2; subst hw''))))
    go_ret
    exact ⟨rfl, p.back bk⟩
  · go_wp2_with (first | ((with_reducible refine (c2 _).mono ?_); rintro e w2 ⟨rfl, hb2⟩; (first | ((with_reducible obtain ⟨p, hw''⟩ := In.of2 p hb2); subst hw'') | (obtain ⟨p, hw''⟩ := In.of hb2; subst hw''))) | ((with_reducible refine (d1 _).mono ?_); rintro e w3 ⟨rfl, hb3⟩; (first | ((with_reducible obtain ⟨p, hw''⟩ := In.of2 p hb3); subst hw'') | (obtain ⟨p, hw''⟩ := In.of hb3; subst hw''))) | ((with_reducible refine (c3 _ _).mono ?_); rintro e w4 ⟨rfl, hb4⟩; (first | ((with_reducible obtain ⟨p, hw''⟩ := In.of2 p hb4); subst hw'') | (obtain ⟨p, hw''⟩ := In.of hb4; subst hw''))))
    go_ret
    exact ⟨rfl, p.back bk⟩
set_option maxRecDepth 8000 in
set_option maxHeartbeats 1000000 in
theorem order_notAbove_c (u : Value) (a : Val) (v : Value) (b : Val) (w : World) (hu : Has w u a) (hv : Has w v b) : Calls Try.prog 32 #[u, v, .func (.func 34) #[] #[]] w fun e w' => e = .returned (.bool (alikeV a b && decide (cmpV a b ≤ 0))) ∧ Below w.heap.size w w' := by
  have c1 : ∀ w', Below w.heap.size w w' → Calls Try.prog 45 #[u, v] w' (IntEnds (cmpV a b) w') := fun w' h => cmpv_c a b u v w' (hu.keep h) (hv.keep h)
  unfold IntEnds at c1
  have hal : alikeV a b = (rcls a.k == rcls b.k) := rfl
  obtain ⟨A, capa, rfl, _⟩ := hu.open
  obtain ⟨B, capb, rfl, _⟩ := hv.open
  have c2 := fun w => alike_c a.k a.b a.n a.f a.s A a.l.length capa b.k b.b b.n b.f b.s B b.l.length capb w
  rw [← hal] at c2
  have c3 := fun c w => notAbove_c c w
  clear hu hv hal
  generalize cmpV a b = c at *
  generalize alikeV a b = q at *
  go_enter Try.func32, Try.ntmps32
  go_upto_region 1 with fail
  obtain ⟨w1, hw1⟩ : ∃ w1, w1 = (w.alloc (.cells #[.int .i64 a.k, .bool a.b, .int .i64 a.n, .float .f64 a.f, .string (st a.s), .slice A a.l.length capa] 31)).alloc (.cells #[.int .i64 b.k, .bool b.b, .int .i64 b.n, .float .f64 b.f, .string (st b.s), .slice B b.l.length capb] 31) := ⟨_, rfl⟩
  have bk : Below w.heap.size w w1 := hw1 ▸ (below_alloc w _).alloc (by simp) _
  obtain ⟨x6, x0, x1, x2, x3, x4, x5⟩ : Box w1 w.heap.size a.k a.b a.n a.f a.s A a.l.length capa := hw1 ▸ (Box.new w a.k a.b a.n a.f a.s A a.l.length capa _).keep (below_alloc _ _)
  obtain ⟨y6, y0, y1, y2, y3, y4, y5⟩ : Box w1 (w.heap.size + 1) b.k b.b b.n b.f b.s B b.l.length capb := hw1 ▸ Box.new2 w b.k b.b b.n b.f b.s B b.l.length capb _ _
  rw [← hw1]
  clear hw1
  have d1 := fun p : In w1 => c1 p.w (p.back bk)
  clear c1
  cases q
  · go_wp2_with (first | ((with_reducible refine (c2 _).mono ?_); rintro e w2 ⟨rfl, hb2⟩; (first | ((with_reducible obtain ⟨p, hw''⟩ := In.of2 p hb2); subst hw'') | (obtain ⟨p, hw''⟩ := In.of hb2; subst hw''))))
    go_ret
    exact ⟨rfl, p.back bk⟩
  · go_wp2_with (first | ((with_reducible refine (c2 _).mono ?_); rintro e w2 ⟨rfl, hb2⟩; (first | ((with_reducible obtain ⟨p, hw''⟩ := In.of2 p hb2); subst hw'') | (obtain ⟨p, hw''⟩ := In.of hb2; subst hw''))) | ((with_reducible refine (d1 _).mono ?_); rintro e w3 ⟨rfl, hb3⟩; (first | ((with_reducible obtain ⟨p, hw''⟩ := In.of2 p hb3); subst hw'') | (obtain ⟨p, hw''⟩ := In.of hb3; subst hw''))) | ((with_reducible refine (c3 _ _).mono ?_); rintro e w4 ⟨rfl, hb4⟩; (first | ((with_reducible obtain ⟨p, hw''⟩ := In.of2 p hb4); subst hw'') | (obtain ⟨p, hw''⟩ := In.of hb4; subst hw''))))
    go_ret
    exact ⟨rfl, p.back bk⟩
set_option maxRecDepth 8000 in
set_option maxHeartbeats 1000000 in
theorem order_notBelow_c (u : Value) (a : Val) (v : Value) (b : Val) (w : World) (hu : Has w u a) (hv : Has w v b) : Calls Try.prog 32 #[u, v, .func (.func 36) #[] #[]] w fun e w' => e = .returned (.bool (alikeV a b && decide (0 ≤ cmpV a b))) ∧ Below w.heap.size w w' := by
  have c1 : ∀ w', Below w.heap.size w w' → Calls Try.prog 45 #[u, v] w' (IntEnds (cmpV a b) w') := fun w' h => cmpv_c a b u v w' (hu.keep h) (hv.keep h)
  unfold IntEnds at c1
  have hal : alikeV a b = (rcls a.k == rcls b.k) := rfl
  obtain ⟨A, capa, rfl, _⟩ := hu.open
  obtain ⟨B, capb, rfl, _⟩ := hv.open
  have c2 := fun w => alike_c a.k a.b a.n a.f a.s A a.l.length capa b.k b.b b.n b.f b.s B b.l.length capb w
  rw [← hal] at c2
  have c3 := fun c w => notBelow_c c w
  clear hu hv hal
  generalize cmpV a b = c at *
  generalize alikeV a b = q at *
  go_enter Try.func32, Try.ntmps32
  go_upto_region 1 with fail
  obtain ⟨w1, hw1⟩ : ∃ w1, w1 = (w.alloc (.cells #[.int .i64 a.k, .bool a.b, .int .i64 a.n, .float .f64 a.f, .string (st a.s), .slice A a.l.length capa] 31)).alloc (.cells #[.int .i64 b.k, .bool b.b, .int .i64 b.n, .float .f64 b.f, .string (st b.s), .slice B b.l.length capb] 31) := ⟨_, rfl⟩
  have bk : Below w.heap.size w w1 := hw1 ▸ (below_alloc w _).alloc (by simp) _
  obtain ⟨x6, x0, x1, x2, x3, x4, x5⟩ : Box w1 w.heap.size a.k a.b a.n a.f a.s A a.l.length capa := hw1 ▸ (Box.new w a.k a.b a.n a.f a.s A a.l.length capa _).keep (below_alloc _ _)
  obtain ⟨y6, y0, y1, y2, y3, y4, y5⟩ : Box w1 (w.heap.size + 1) b.k b.b b.n b.f b.s B b.l.length capb := hw1 ▸ Box.new2 w b.k b.b b.n b.f b.s B b.l.length capb _ _
  rw [← hw1]
  clear hw1
  have d1 := fun p : In w1 => c1 p.w (p.back bk)
  clear c1
  cases q
  · go_wp2_with (first | ((with_reducible refine (c2 _).mono ?_); rintro e w2 ⟨rfl, hb2⟩; (first | ((with_reducible obtain ⟨p, hw''⟩ := In.of2 p hb2); subst hw'') | (obtain ⟨p, hw''⟩ := In.of hb2; subst hw''))))
    go_ret
    exact ⟨rfl, p.back bk⟩
  · go_wp2_with (first | ((with_reducible refine (c2 _).mono ?_); rintro e w2 ⟨rfl, hb2⟩; (first | ((with_reducible obtain ⟨p, hw''⟩ := In.of2 p hb2); subst hw'') | (obtain ⟨p, hw''⟩ := In.of hb2; subst hw''))) | ((with_reducible refine (d1 _).mono ?_); rintro e w3 ⟨rfl, hb3⟩; (first | ((with_reducible obtain ⟨p, hw''⟩ := In.of2 p hb3); subst hw'') | (obtain ⟨p, hw''⟩ := In.of hb3; subst hw''))) | ((with_reducible refine (c3 _ _).mono ?_); rintro e w4 ⟨rfl, hb4⟩; (first | ((with_reducible obtain ⟨p, hw''⟩ := In.of2 p hb4); subst hw'') | (obtain ⟨p, hw''⟩ := In.of hb4; subst hw''))))
    go_ret
    exact ⟨rfl, p.back bk⟩
end Go.Proofs.Ytglcnnnjdkjggaa
