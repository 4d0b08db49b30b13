
/-
  What a predicate that may be tells of a value: pred.holds, name by name; then of any.
-/
import Derived.Test.YtglcnnnjdkjggaaPrdT
import Derived.Test.YtglcnnnjdkjggaaPrdF
import Derived.Test.YtglcnnnjdkjggaaPry
set_option linter.unusedSimpArgs false
set_option linter.unusedVariables false
namespace Go.Proofs.Ytglcnnnjdkjggaa
open Go.RowKit

/-- what is told of a value by a predicate, wherever both lie -/
def Tells (q : Pr) (v : Val) (b : Bool) : Prop := ∀ (uq uv : Value) (w : World) (m : Int), HasQ w uq q → Has w uv v → w.cell? ⟨maxG, 0, none⟩ = some (.int .i64 m) → Calls Try.prog 17 #[uq, uv] w fun e w' => e = .returned (.bool b) ∧ Below w.heap.size w w'

set_option maxRecDepth 8000 in
theorem pinAny_c (g h : Nat) (A : Option Addr) (cap : Nat) (l : List Val) (v : Val) (k : Int) (b : Bool) (n : Int) (f : Nat) (s : List UInt8) (B : Option Addr) (len c : Nat) (w : World)
    (h1 : w.cell? ⟨g, 1, none⟩ = some (.slice A l.length cap)) (hg : g < w.heap.size) (hb : Box w h k b n f s B len c) (hv : Has w (valV k b n f s B len c) v) (hp : Parts w A l) (hl : l.length ≤ maxLen) :
    Calls Try.prog 29 #[.pointer (some ⟨g, 0, none⟩), .pointer (some ⟨h, 0, none⟩)] w fun e w' => e = .returned (.bool (anyV v l)) ∧ Below w.heap.size w w' := by
  have cs : Calls Try.prog 24 #[.slice A l.length cap, holdF h] w fun e w' => e = .returned (.bool (anyV v l)) ∧ Below w.heap.size w w' := containsIn_c h v k b n f s B len c l A cap w hb hv hp hl
  clear hb hv hp hl
  go_enter Try.func29, Try.ntmps29
  go_wp2_with ((with_reducible refine cs.mono ?_); rintro e w2 ⟨rfl, hb2⟩)
  go_ret
  exact ⟨rfl, hb2⟩
set_option maxRecDepth 8000 in
set_option maxHeartbeats 2000000 in
theorem tells_eq (v : Val) (l : List Val) : Tells (.mk [101, 113] l []) v (anyV v l) := by
  intro uq uv w m hq hv hm
  obtain ⟨A, cap, K, kcap, rfl, hs, hp, hl, hmx, hkl, hkm, hk⟩ := hq.open
  dsimp only [Pr.op, Pr.l, Pr.kids, List.length_cons, List.length_nil] at hs hp hl hmx hkl hkm hk ⊢
  clear hq hs hkl hkm
  have hml : l.length ≤ maxLen := Nat.le_trans hl hmx
  obtain ⟨B, capb, rfl, _⟩ := hv.open
  have cs : ∀ w', Below w.heap.size w w' → w'.cell? ⟨w.heap.size, 1, none⟩ = some (.slice A l.length cap) → w.heap.size < w'.heap.size → Box w' (w.heap.size + 1) v.k v.b v.n v.f v.s B v.l.length capb → Calls Try.prog 29 #[.pointer (some ⟨w.heap.size, 0, none⟩), .pointer (some ⟨w.heap.size + 1, 0, none⟩)] w' fun e w'' => e = .returned (.bool (anyV v l)) ∧ Below w'.heap.size w' w'' :=
    fun w' hb h1 h2 h3 => pinAny_c w.heap.size (w.heap.size + 1) A cap l v _ _ _ _ _ _ _ _ w' h1 h2 h3 (hv.keep hb) (hp.keep hb) hml
  clear hv hp hm hk hml hl hmx
  generalize anyV v l = q at *
  go_enter Try.func17, Try.ntmps17
  go_upto_region 1 with fail
  obtain ⟨w1, hw1⟩ : ∃ w1, w1 = (w.alloc (.cells #[.string (st [101, 113]), .slice A l.length cap, .slice K 0 kcap] 25)).alloc (.cells #[.int .i64 v.k, .bool v.b, .int .i64 v.n, .float .f64 v.f, .string (st v.s), .slice B v.l.length capb] 31) := ⟨_, rfl⟩
  have bk : Below w.heap.size w w1 := hw1 ▸ (below_alloc w _).alloc (by simp) _
  have bx : Box w1 (w.heap.size + 1) v.k v.b v.n v.f v.s B v.l.length capb := hw1 ▸ Box.new2 w v.k v.b v.n v.f v.s B v.l.length capb _ _
  have hx7 : w.heap.size + 1 < w1.heap.size := by rw [hw1]; simp
  have z0 : w1.cell? ⟨w.heap.size, 0, none⟩ = some (.string (st [101, 113])) := by rw [hw1]; simp [go_sem]
  have z1 : w1.cell? ⟨w.heap.size, 1, none⟩ = some (.slice A l.length cap) := by rw [hw1]; simp [go_sem]
  have z2 : w1.cell? ⟨w.heap.size, 2, none⟩ = some (.slice K 0 kcap) := by rw [hw1]; simp [go_sem]
  have z6 : w.heap.size < w1.heap.size := by omega
  rw [← hw1]
  clear hw1
  have d1 := cs w1 bk z1 z6 bx
  clear cs
  obtain ⟨x6, x0, x1, x2, x3, x4, x5⟩ := bx
  go_wp2_with ((with_reducible refine d1.mono ?_); rintro e w2 ⟨rfl, hb2⟩)
  go_ret
  exact ⟨rfl, bk.trans (hb2.mono bk.size)⟩
set_option maxRecDepth 8000 in
set_option maxHeartbeats 2000000 in
theorem tells_within (v : Val) (l : List Val) : Tells (.mk [119, 105, 116, 104, 105, 110] l []) v (anyV v l) := by
  intro uq uv w m hq hv hm
  obtain ⟨A, cap, K, kcap, rfl, hs, hp, hl, hmx, hkl, hkm, hk⟩ := hq.open
  dsimp only [Pr.op, Pr.l, Pr.kids, List.length_cons, List.length_nil] at hs hp hl hmx hkl hkm hk ⊢
  clear hq hs hkl hkm
  have hml : l.length ≤ maxLen := Nat.le_trans hl hmx
  obtain ⟨B, capb, rfl, _⟩ := hv.open
  have cs : ∀ w', Below w.heap.size w w' → w'.cell? ⟨w.heap.size, 1, none⟩ = some (.slice A l.length cap) → w.heap.size < w'.heap.size → Box w' (w.heap.size + 1) v.k v.b v.n v.f v.s B v.l.length capb → Calls Try.prog 29 #[.pointer (some ⟨w.heap.size, 0, none⟩), .pointer (some ⟨w.heap.size + 1, 0, none⟩)] w' fun e w'' => e = .returned (.bool (anyV v l)) ∧ Below w'.heap.size w' w'' :=
    fun w' hb h1 h2 h3 => pinAny_c w.heap.size (w.heap.size + 1) A cap l v _ _ _ _ _ _ _ _ w' h1 h2 h3 (hv.keep hb) (hp.keep hb) hml
  clear hv hp hm hk hml hl hmx
  generalize anyV v l = q at *
  go_enter Try.func17, Try.ntmps17
  go_upto_region 1 with fail
  obtain ⟨w1, hw1⟩ : ∃ w1, w1 = (w.alloc (.cells #[.string (st [119, 105, 116, 104, 105, 110]), .slice A l.length cap, .slice K 0 kcap] 25)).alloc (.cells #[.int .i64 v.k, .bool v.b, .int .i64 v.n, .float .f64 v.f, .string (st v.s), .slice B v.l.length capb] 31) := ⟨_, rfl⟩
  have bk : Below w.heap.size w w1 := hw1 ▸ (below_alloc w _).alloc (by simp) _
  have bx : Box w1 (w.heap.size + 1) v.k v.b v.n v.f v.s B v.l.length capb := hw1 ▸ Box.new2 w v.k v.b v.n v.f v.s B v.l.length capb _ _
  have hx7 : w.heap.size + 1 < w1.heap.size := by rw [hw1]; simp
  have z0 : w1.cell? ⟨w.heap.size, 0, none⟩ = some (.string (st [119, 105, 116, 104, 105, 110])) := by rw [hw1]; simp [go_sem]
  have z1 : w1.cell? ⟨w.heap.size, 1, none⟩ = some (.slice A l.length cap) := by rw [hw1]; simp [go_sem]
  have z2 : w1.cell? ⟨w.heap.size, 2, none⟩ = some (.slice K 0 kcap) := by rw [hw1]; simp [go_sem]
  have z6 : w.heap.size < w1.heap.size := by omega
  rw [← hw1]
  clear hw1
  have d1 := cs w1 bk z1 z6 bx
  clear cs
  obtain ⟨x6, x0, x1, x2, x3, x4, x5⟩ := bx
  go_wp2_with ((with_reducible refine d1.mono ?_); rintro e w2 ⟨rfl, hb2⟩)
  go_ret
  exact ⟨rfl, bk.trans (hb2.mono bk.size)⟩
set_option maxRecDepth 8000 in
set_option maxHeartbeats 2000000 in
theorem tells_neq (v : Val) (l : List Val) : Tells (.mk [110, 101, 113] l []) v (!anyV v l) := by
  intro uq uv w m hq hv hm
  obtain ⟨A, cap, K, kcap, rfl, hs, hp, hl, hmx, hkl, hkm, hk⟩ := hq.open
  dsimp only [Pr.op, Pr.l, Pr.kids, List.length_cons, List.length_nil] at hs hp hl hmx hkl hkm hk ⊢
  clear hq hs hkl hkm
  have hml : l.length ≤ maxLen := Nat.le_trans hl hmx
  obtain ⟨B, capb, rfl, _⟩ := hv.open
  have cs : ∀ w', Below w.heap.size w w' → w'.cell? ⟨w.heap.size, 1, none⟩ = some (.slice A l.length cap) → w.heap.size < w'.heap.size → Box w' (w.heap.size + 1) v.k v.b v.n v.f v.s B v.l.length capb → Calls Try.prog 29 #[.pointer (some ⟨w.heap.size, 0, none⟩), .pointer (some ⟨w.heap.size + 1, 0, none⟩)] w' fun e w'' => e = .returned (.bool (anyV v l)) ∧ Below w'.heap.size w' w'' :=
    fun w' hb h1 h2 h3 => pinAny_c w.heap.size (w.heap.size + 1) A cap l v _ _ _ _ _ _ _ _ w' h1 h2 h3 (hv.keep hb) (hp.keep hb) hml
  clear hv hp hm hk hml hl hmx
  generalize anyV v l = q at *
  go_enter Try.func17, Try.ntmps17
  go_upto_region 1 with fail
  obtain ⟨w1, hw1⟩ : ∃ w1, w1 = (w.alloc (.cells #[.string (st [110, 101, 113]), .slice A l.length cap, .slice K 0 kcap] 25)).alloc (.cells #[.int .i64 v.k, .bool v.b, .int .i64 v.n, .float .f64 v.f, .string (st v.s), .slice B v.l.length capb] 31) := ⟨_, rfl⟩
  have bk : Below w.heap.size w w1 := hw1 ▸ (below_alloc w _).alloc (by simp) _
  have bx : Box w1 (w.heap.size + 1) v.k v.b v.n v.f v.s B v.l.length capb := hw1 ▸ Box.new2 w v.k v.b v.n v.f v.s B v.l.length capb _ _
  have hx7 : w.heap.size + 1 < w1.heap.size := by rw [hw1]; simp
  have z0 : w1.cell? ⟨w.heap.size, 0, none⟩ = some (.string (st [110, 101, 113])) := by rw [hw1]; simp [go_sem]
  have z1 : w1.cell? ⟨w.heap.size, 1, none⟩ = some (.slice A l.length cap) := by rw [hw1]; simp [go_sem]
  have z2 : w1.cell? ⟨w.heap.size, 2, none⟩ = some (.slice K 0 kcap) := by rw [hw1]; simp [go_sem]
  have z6 : w.heap.size < w1.heap.size := by omega
  rw [← hw1]
  clear hw1
  have d1 := cs w1 bk z1 z6 bx
  clear cs
  obtain ⟨x6, x0, x1, x2, x3, x4, x5⟩ := bx
  go_wp2_with ((with_reducible refine d1.mono ?_); rintro e w2 ⟨rfl, hb2⟩)
  go_ret
  exact ⟨rfl, bk.trans (hb2.mono bk.size)⟩
set_option maxRecDepth 8000 in
set_option maxHeartbeats 2000000 in
theorem tells_without (v : Val) (l : List Val) : Tells (.mk [119, 105, 116, 104, 111, 117, 116] l []) v (!anyV v l) := by
  intro uq uv w m hq hv hm
  obtain ⟨A, cap, K, kcap, rfl, hs, hp, hl, hmx, hkl, hkm, hk⟩ := hq.open
  dsimp only [Pr.op, Pr.l, Pr.kids, List.length_cons, List.length_nil] at hs hp hl hmx hkl hkm hk ⊢
  clear hq hs hkl hkm
  have hml : l.length ≤ maxLen := Nat.le_trans hl hmx
  obtain ⟨B, capb, rfl, _⟩ := hv.open
  have cs : ∀ w', Below w.heap.size w w' → w'.cell? ⟨w.heap.size, 1, none⟩ = some (.slice A l.length cap) → w.heap.size < w'.heap.size → Box w' (w.heap.size + 1) v.k v.b v.n v.f v.s B v.l.length capb → Calls Try.prog 29 #[.pointer (some ⟨w.heap.size, 0, none⟩), .pointer (some ⟨w.heap.size + 1, 0, none⟩)] w' fun e w'' => e = .returned (.bool (anyV v l)) ∧ Below w'.heap.size w' w'' :=
    fun w' hb h1 h2 h3 => pinAny_c w.heap.size (w.heap.size + 1) A cap l v _ _ _ _ _ _ _ _ w' h1 h2 h3 (hv.keep hb) (hp.keep hb) hml
  clear hv hp hm hk hml hl hmx
  generalize anyV v l = q at *
  go_enter Try.func17, Try.ntmps17
  go_upto_region 1 with fail
  obtain ⟨w1, hw1⟩ : ∃ w1, w1 = (w.alloc (.cells #[.string (st [119, 105, 116, 104, 111, 117, 116]), .slice A l.length cap, .slice K 0 kcap] 25)).alloc (.cells #[.int .i64 v.k, .bool v.b, .int .i64 v.n, .float .f64 v.f, .string (st v.s), .slice B v.l.length capb] 31) := ⟨_, rfl⟩
  have bk : Below w.heap.size w w1 := hw1 ▸ (below_alloc w _).alloc (by simp) _
  have bx : Box w1 (w.heap.size + 1) v.k v.b v.n v.f v.s B v.l.length capb := hw1 ▸ Box.new2 w v.k v.b v.n v.f v.s B v.l.length capb _ _
  have hx7 : w.heap.size + 1 < w1.heap.size := by rw [hw1]; simp
  have z0 : w1.cell? ⟨w.heap.size, 0, none⟩ = some (.string (st [119, 105, 116, 104, 111, 117, 116])) := by rw [hw1]; simp [go_sem]
  have z1 : w1.cell? ⟨w.heap.size, 1, none⟩ = some (.slice A l.length cap) := by rw [hw1]; simp [go_sem]
  have z2 : w1.cell? ⟨w.heap.size, 2, none⟩ = some (.slice K 0 kcap) := by rw [hw1]; simp [go_sem]
  have z6 : w.heap.size < w1.heap.size := by omega
  rw [← hw1]
  clear hw1
  have d1 := cs w1 bk z1 z6 bx
  clear cs
  obtain ⟨x6, x0, x1, x2, x3, x4, x5⟩ := bx
  go_wp2_with ((with_reducible refine d1.mono ?_); rintro e w2 ⟨rfl, hb2⟩)
  go_ret
  exact ⟨rfl, bk.trans (hb2.mono bk.size)⟩
set_option maxRecDepth 8000 in
set_option maxHeartbeats 2000000 in
theorem tells_lt (v x : Val) : Tells (.mk [108, 116] [x] []) v (alikeV v x && decide (cmpV v x < 0)) := by
  intro uq uv w m hq hv hm
  obtain ⟨A, cap, K, kcap, rfl, hs, hp, hl, hmx, hkl, hkm, hk⟩ := hq.open
  dsimp only [Pr.op, Pr.l, Pr.kids, List.length_cons, List.length_nil] at hs hp hl hmx hkl hkm hk ⊢
  clear hq hs hkl hkm
  obtain ⟨ad, kx, bx, nx, fx, sx, Bx, lenx, cx, had, hx, hat⟩ := hp 0 x rfl
  subst had
  rw [show ad.add (0 * 6) = ad from rfl] at hat
  obtain ⟨B, capb, rfl, _⟩ := hv.open
  have co : ∀ w', Below w.heap.size w w' → Calls Try.prog 32 #[valV v.k v.b v.n v.f v.s B v.l.length capb, valV kx bx nx fx sx Bx lenx cx, .func (.func 33) #[] #[]] w' fun e w'' => e = .returned (.bool (alikeV v x && decide (cmpV v x < 0))) ∧ Below w'.heap.size w' w'' :=
    fun w' hb => order_below_c _ v _ x w' (hv.keep hb) (hx.keep hb)
  clear hv hx hp hm hk hl hmx
  generalize (alikeV v x && decide (cmpV v x < 0)) = q at *
  go_enter Try.func17, Try.ntmps17
  go_upto_region 1 with fail
  obtain ⟨w1, hw1⟩ : ∃ w1, w1 = (w.alloc (.cells #[.string (st [108, 116]), .slice (some ad) 1 cap, .slice K 0 kcap] 25)).alloc (.cells #[.int .i64 v.k, .bool v.b, .int .i64 v.n, .float .f64 v.f, .string (st v.s), .slice B v.l.length capb] 31) := ⟨_, rfl⟩
  have bk : Below w.heap.size w w1 := hw1 ▸ (below_alloc w _).alloc (by simp) _
  have bx : Box w1 (w.heap.size + 1) v.k v.b v.n v.f v.s B v.l.length capb := hw1 ▸ Box.new2 w v.k v.b v.n v.f v.s B v.l.length capb _ _
  have hx7 : w.heap.size + 1 < w1.heap.size := by rw [hw1]; simp
  have z0 : w1.cell? ⟨w.heap.size, 0, none⟩ = some (.string (st [108, 116])) := by rw [hw1]; simp [go_sem]
  have z1 : w1.cell? ⟨w.heap.size, 1, none⟩ = some (.slice (some ad) 1 cap) := by rw [hw1]; simp [go_sem]
  have z2 : w1.cell? ⟨w.heap.size, 2, none⟩ = some (.slice K 0 kcap) := by rw [hw1]; simp [go_sem]
  have z6 : w.heap.size < w1.heap.size := by omega
  rw [← hw1]
  clear hw1
  have d1 := fun p : In w1 => co p.w (p.back bk)
  clear co
  obtain ⟨x6, x0, x1, x2, x3, x4, x5⟩ := bx
  obtain ⟨q6, q0, q1, q2, q3, q4, q5⟩ := hat.keep bk
  clear hat
  go_upto_region 16 with fail
  (refine wp_region_flow [] (by kernel_rfl) (by kernel_rfl) ?_; (repeat (((with_reducible refine wpFlow_steps ?_); intro K hK; go_simp; first | (with_reducible refine hK _ ?_; clear hK K) | (apply Exists.intro; (with_reducible refine ⟨fun _ => ⟨?_, _, rfl⟩, hK _ ?_⟩); (· exact rfl); clear hK K) | (apply Exists.intro; (with_reducible refine ⟨fun _ => ⟨_, rfl⟩, hK _ ?_⟩); clear hK K) | (apply Exists.intro; (with_reducible refine ⟨fun _ => ?_, hK _ ?_⟩); (· (with_reducible (exact d1 _))); clear hK K)))); (refine wpFlow_nil ?_; rintro w1 ⟨q0, hq0⟩; have hb := In.h q0; rw [← hq0] at hb; clear hq0 q0; (first | ((with_reducible obtain ⟨p, hw''⟩ := In.of2 p hb); subst hw'') | (obtain ⟨p, hw''⟩ := In.of hb; subst hw'')); go_simp; intros))
  go_wp2_with fail
  go_ret
  exact ⟨rfl, p.back bk⟩
set_option maxRecDepth 8000 in
set_option maxHeartbeats 2000000 in
theorem tells_lte (v x : Val) : Tells (.mk [108, 116, 101] [x] []) v (alikeV v x && decide (cmpV v x ≤ 0)) := by
  intro uq uv w m hq hv hm
  obtain ⟨A, cap, K, kcap, rfl, hs, hp, hl, hmx, hkl, hkm, hk⟩ := hq.open
  dsimp only [Pr.op, Pr.l, Pr.kids, List.length_cons, List.length_nil] at hs hp hl hmx hkl hkm hk ⊢
  clear hq hs hkl hkm
  obtain ⟨ad, kx, bx, nx, fx, sx, Bx, lenx, cx, had, hx, hat⟩ := hp 0 x rfl
  subst had
  rw [show ad.add (0 * 6) = ad from rfl] at hat
  obtain ⟨B, capb, rfl, _⟩ := hv.open
  have co : ∀ w', Below w.heap.size w w' → Calls Try.prog 32 #[valV v.k v.b v.n v.f v.s B v.l.length capb, valV kx bx nx fx sx Bx lenx cx, .func (.func 34) #[] #[]] w' fun e w'' => e = .returned (.bool (alikeV v x && decide (cmpV v x ≤ 0))) ∧ Below w'.heap.size w' w'' :=
    fun w' hb => order_notAbove_c _ v _ x w' (hv.keep hb) (hx.keep hb)
  clear hv hx hp hm hk hl hmx
  generalize (alikeV v x && decide (cmpV v x ≤ 0)) = q at *
  go_enter Try.func17, Try.ntmps17
  go_upto_region 1 with fail
  obtain ⟨w1, hw1⟩ : ∃ w1, w1 = (w.alloc (.cells #[.string (st [108, 116, 101]), .slice (some ad) 1 cap, .slice K 0 kcap] 25)).alloc (.cells #[.int .i64 v.k, .bool v.b, .int .i64 v.n, .float .f64 v.f, .string (st v.s), .slice B v.l.length capb] 31) := ⟨_, rfl⟩
  have bk : Below w.heap.size w w1 := hw1 ▸ (below_alloc w _).alloc (by simp) _
  have bx : Box w1 (w.heap.size + 1) v.k v.b v.n v.f v.s B v.l.length capb := hw1 ▸ Box.new2 w v.k v.b v.n v.f v.s B v.l.length capb _ _
  have hx7 : w.heap.size + 1 < w1.heap.size := by rw [hw1]; simp
  have z0 : w1.cell? ⟨w.heap.size, 0, none⟩ = some (.string (st [108, 116, 101])) := by rw [hw1]; simp [go_sem]
  have z1 : w1.cell? ⟨w.heap.size, 1, none⟩ = some (.slice (some ad) 1 cap) := by rw [hw1]; simp [go_sem]
  have z2 : w1.cell? ⟨w.heap.size, 2, none⟩ = some (.slice K 0 kcap) := by rw [hw1]; simp [go_sem]
  have z6 : w.heap.size < w1.heap.size := by omega
  rw [← hw1]
  clear hw1
  have d1 := fun p : In w1 => co p.w (p.back bk)
  clear co
  obtain ⟨x6, x0, x1, x2, x3, x4, x5⟩ := bx
  obtain ⟨q6, q0, q1, q2, q3, q4, q5⟩ := hat.keep bk
  clear hat
  go_upto_region 18 with fail
  (refine wp_region_flow [] (by kernel_rfl) (by kernel_rfl) ?_; (repeat (((with_reducible refine wpFlow_steps ?_); intro K hK; go_simp; first | (with_reducible refine hK _ ?_; clear hK K) | (apply Exists.intro; (with_reducible refine ⟨fun _ => ⟨?_, _, rfl⟩, hK _ ?_⟩); (· exact rfl); clear hK K) | (apply Exists.intro; (with_reducible refine ⟨fun _ => ⟨_, rfl⟩, hK _ ?_⟩); clear hK K) | (apply Exists.intro; (with_reducible refine ⟨fun _ => ?_, hK _ ?_⟩); (· (with_reducible (exact d1 _))); clear hK K)))); (refine wpFlow_nil ?_; rintro w1 ⟨q0, hq0⟩; have hb := In.h q0; rw [← hq0] at hb; clear hq0 q0; (first | ((with_reducible obtain ⟨p, hw''⟩ := In.of2 p hb); subst hw'') | (obtain ⟨p, hw''⟩ := In.of hb; subst hw'')); go_simp; intros))
  go_wp2_with fail
  go_ret
  exact ⟨rfl, p.back bk⟩
set_option maxRecDepth 8000 in
set_option maxHeartbeats 2000000 in
theorem tells_gt (v x : Val) : Tells (.mk [103, 116] [x] []) v (alikeV v x && decide (0 < cmpV v x)) := by
  intro uq uv w m hq hv hm
  obtain ⟨A, cap, K, kcap, rfl, hs, hp, hl, hmx, hkl, hkm, hk⟩ := hq.open
  dsimp only [Pr.op, Pr.l, Pr.kids, List.length_cons, List.length_nil] at hs hp hl hmx hkl hkm hk ⊢
  clear hq hs hkl hkm
  obtain ⟨ad, kx, bx, nx, fx, sx, Bx, lenx, cx, had, hx, hat⟩ := hp 0 x rfl
  subst had
  rw [show ad.add (0 * 6) = ad from rfl] at hat
  obtain ⟨B, capb, rfl, _⟩ := hv.open
  have co : ∀ w', Below w.heap.size w w' → Calls Try.prog 32 #[valV v.k v.b v.n v.f v.s B v.l.length capb, valV kx bx nx fx sx Bx lenx cx, .func (.func 35) #[] #[]] w' fun e w'' => e = .returned (.bool (alikeV v x && decide (0 < cmpV v x))) ∧ Below w'.heap.size w' w'' :=
    fun w' hb => order_above_c _ v _ x w' (hv.keep hb) (hx.keep hb)
  clear hv hx hp hm hk hl hmx
  generalize (alikeV v x && decide (0 < cmpV v x)) = q at *
  go_enter Try.func17, Try.ntmps17
  go_upto_region 1 with fail
  obtain ⟨w1, hw1⟩ : ∃ w1, w1 = (w.alloc (.cells #[.string (st [103, 116]), .slice (some ad) 1 cap, .slice K 0 kcap] 25)).alloc (.cells #[.int .i64 v.k, .bool v.b, .int .i64 v.n, .float .f64 v.f, .string (st v.s), .slice B v.l.length capb] 31) := ⟨_, rfl⟩
  have bk : Below w.heap.size w w1 := hw1 ▸ (below_alloc w _).alloc (by simp) _
  have bx : Box w1 (w.heap.size + 1) v.k v.b v.n v.f v.s B v.l.length capb := hw1 ▸ Box.new2 w v.k v.b v.n v.f v.s B v.l.length capb _ _
  have hx7 : w.heap.size + 1 < w1.heap.size := by rw [hw1]; simp
  have z0 : w1.cell? ⟨w.heap.size, 0, none⟩ = some (.string (st [103, 116])) := by rw [hw1]; simp [go_sem]
  have z1 : w1.cell? ⟨w.heap.size, 1, none⟩ = some (.slice (some ad) 1 cap) := by rw [hw1]; simp [go_sem]
  have z2 : w1.cell? ⟨w.heap.size, 2, none⟩ = some (.slice K 0 kcap) := by rw [hw1]; simp [go_sem]
  have z6 : w.heap.size < w1.heap.size := by omega
  rw [← hw1]
  clear hw1
  have d1 := fun p : In w1 => co p.w (p.back bk)
  clear co
  obtain ⟨x6, x0, x1, x2, x3, x4, x5⟩ := bx
  obtain ⟨q6, q0, q1, q2, q3, q4, q5⟩ := hat.keep bk
  clear hat
  go_upto_region 20 with fail
  (refine wp_region_flow [] (by kernel_rfl) (by kernel_rfl) ?_; (repeat (((with_reducible refine wpFlow_steps ?_); intro K hK; go_simp; first | (with_reducible refine hK _ ?_; clear hK K) | (apply Exists.intro; (with_reducible refine ⟨fun _ => ⟨?_, _, rfl⟩, hK _ ?_⟩); (· exact rfl); clear hK K) | (apply Exists.intro; (with_reducible refine ⟨fun _ => ⟨_, rfl⟩, hK _ ?_⟩); clear hK K) | (apply Exists.intro; (with_reducible refine ⟨fun _ => ?_, hK _ ?_⟩); (· (with_reducible (exact d1 _))); clear hK K)))); (refine wpFlow_nil ?_; rintro w1 ⟨q0, hq0⟩; have hb := In.h q0; rw [← hq0] at hb; clear hq0 q0; (first | ((with_reducible obtain ⟨p, hw''⟩ := In.of2 p hb); subst hw'') | (obtain ⟨p, hw''⟩ := In.of hb; subst hw'')); go_simp; intros))
  go_wp2_with fail
  go_ret
  exact ⟨rfl, p.back bk⟩
set_option maxRecDepth 8000 in
set_option maxHeartbeats 2000000 in
theorem tells_gte (v x : Val) : Tells (.mk [103, 116, 101] [x] []) v (alikeV v x && decide (0 ≤ cmpV v x)) := by
  intro uq uv w m hq hv hm
  obtain ⟨A, cap, K, kcap, rfl, hs, hp, hl, hmx, hkl, hkm, hk⟩ := hq.open
  dsimp only [Pr.op, Pr.l, Pr.kids, List.length_cons, List.length_nil] at hs hp hl hmx hkl hkm hk ⊢
  clear hq hs hkl hkm
  obtain ⟨ad, kx, bx, nx, fx, sx, Bx, lenx, cx, had, hx, hat⟩ := hp 0 x rfl
  subst had
  rw [show ad.add (0 * 6) = ad from rfl] at hat
  obtain ⟨B, capb, rfl, _⟩ := hv.open
  have co : ∀ w', Below w.heap.size w w' → Calls Try.prog 32 #[valV v.k v.b v.n v.f v.s B v.l.length capb, valV kx bx nx fx sx Bx lenx cx, .func (.func 36) #[] #[]] w' fun e w'' => e = .returned (.bool (alikeV v x && decide (0 ≤ cmpV v x))) ∧ Below w'.heap.size w' w'' :=
    fun w' hb => order_notBelow_c _ v _ x w' (hv.keep hb) (hx.keep hb)
  clear hv hx hp hm hk hl hmx
  generalize (alikeV v x && decide (0 ≤ cmpV v x)) = q at *
  go_enter Try.func17, Try.ntmps17
  go_upto_region 1 with fail
  obtain ⟨w1, hw1⟩ : ∃ w1, w1 = (w.alloc (.cells #[.string (st [103, 116, 101]), .slice (some ad) 1 cap, .slice K 0 kcap] 25)).alloc (.cells #[.int .i64 v.k, .bool v.b, .int .i64 v.n, .float .f64 v.f, .string (st v.s), .slice B v.l.length capb] 31) := ⟨_, rfl⟩
  have bk : Below w.heap.size w w1 := hw1 ▸ (below_alloc w _).alloc (by simp) _
  have bx : Box w1 (w.heap.size + 1) v.k v.b v.n v.f v.s B v.l.length capb := hw1 ▸ Box.new2 w v.k v.b v.n v.f v.s B v.l.length capb _ _
  have hx7 : w.heap.size + 1 < w1.heap.size := by rw [hw1]; simp
  have z0 : w1.cell? ⟨w.heap.size, 0, none⟩ = some (.string (st [103, 116, 101])) := by rw [hw1]; simp [go_sem]
  have z1 : w1.cell? ⟨w.heap.size, 1, none⟩ = some (.slice (some ad) 1 cap) := by rw [hw1]; simp [go_sem]
  have z2 : w1.cell? ⟨w.heap.size, 2, none⟩ = some (.slice K 0 kcap) := by rw [hw1]; simp [go_sem]
  have z6 : w.heap.size < w1.heap.size := by omega
  rw [← hw1]
  clear hw1
  have d1 := fun p : In w1 => co p.w (p.back bk)
  clear co
  obtain ⟨x6, x0, x1, x2, x3, x4, x5⟩ := bx
  obtain ⟨q6, q0, q1, q2, q3, q4, q5⟩ := hat.keep bk
  clear hat
  go_upto_region 22 with fail
  (refine wp_region_flow [] (by kernel_rfl) (by kernel_rfl) ?_; (repeat (((with_reducible refine wpFlow_steps ?_); intro K hK; go_simp; first | (with_reducible refine hK _ ?_; clear hK K) | (apply Exists.intro; (with_reducible refine ⟨fun _ => ⟨?_, _, rfl⟩, hK _ ?_⟩); (· exact rfl); clear hK K) | (apply Exists.intro; (with_reducible refine ⟨fun _ => ⟨_, rfl⟩, hK _ ?_⟩); clear hK K) | (apply Exists.intro; (with_reducible refine ⟨fun _ => ?_, hK _ ?_⟩); (· (with_reducible (exact d1 _))); clear hK K)))); (refine wpFlow_nil ?_; rintro w1 ⟨q0, hq0⟩; have hb := In.h q0; rw [← hq0] at hb; clear hq0 q0; (first | ((with_reducible obtain ⟨p, hw''⟩ := In.of2 p hb); subst hw'') | (obtain ⟨p, hw''⟩ := In.of hb; subst hw'')); go_simp; intros))
  go_wp2_with fail
  go_ret
  exact ⟨rfl, p.back bk⟩
set_option maxRecDepth 8000 in
set_option maxHeartbeats 2000000 in
theorem tells_between (v x y : Val) : Tells (.mk [98, 101, 116, 119, 101, 101, 110] [x, y] []) v ((alikeV v x && decide (0 ≤ cmpV v x)) && (alikeV v y && decide (cmpV v y < 0))) := by
  intro uq uv w m hq hv hm
  obtain ⟨A, cap, K, kcap, rfl, hs, hp, hl, hmx, hkl, hkm, hk⟩ := hq.open
  dsimp only [Pr.op, Pr.l, Pr.kids, List.length_cons, List.length_nil] at hs hp hl hmx hkl hkm hk ⊢
  clear hq hs hkl hkm
  obtain ⟨ad, kx, bx, nx, fx, sx, Bx, lenx, cx, had, hx, hat⟩ := hp 0 x rfl
  subst had
  rw [show ad.add (0 * 6) = ad from rfl] at hat
  obtain ⟨ad', ky, by', ny, fy, sy, By, leny, cy, had', hy, hat'⟩ := hp 1 y rfl
  obtain rfl := Option.some.inj had'
  rw [show ad.add (1 * 6) = ⟨ad.block, ad.off + 6, none⟩ from rfl] at hat'
  obtain ⟨B, capb, rfl, _⟩ := hv.open
  have co : ∀ w', Below w.heap.size w w' → Calls Try.prog 32 #[valV v.k v.b v.n v.f v.s B v.l.length capb, valV kx bx nx fx sx Bx lenx cx, .func (.func 36) #[] #[]] w' fun e w'' => e = .returned (.bool (alikeV v x && decide (0 ≤ cmpV v x))) ∧ Below w'.heap.size w' w'' :=
    fun w' hb => order_notBelow_c _ v _ x w' (hv.keep hb) (hx.keep hb)
  have co2 : ∀ w', Below w.heap.size w w' → Calls Try.prog 32 #[valV v.k v.b v.n v.f v.s B v.l.length capb, valV ky by' ny fy sy By leny cy, .func (.func 33) #[] #[]] w' fun e w'' => e = .returned (.bool (alikeV v y && decide (cmpV v y < 0))) ∧ Below w'.heap.size w' w'' :=
    fun w' hb => order_below_c _ v _ y w' (hv.keep hb) (hy.keep hb)
  clear hv hx hy hp hm hk hl hmx
  generalize (alikeV v x && decide (0 ≤ cmpV v x)) = t1 at *
  generalize (alikeV v y && decide (cmpV v y < 0)) = t2 at *
  go_enter Try.func17, Try.ntmps17
  go_upto_region 1 with fail
  obtain ⟨w1, hw1⟩ : ∃ w1, w1 = (w.alloc (.cells #[.string (st [98, 101, 116, 119, 101, 101, 110]), .slice (some ad) 2 cap, .slice K 0 kcap] 25)).alloc (.cells #[.int .i64 v.k, .bool v.b, .int .i64 v.n, .float .f64 v.f, .string (st v.s), .slice B v.l.length capb] 31) := ⟨_, rfl⟩
  have bk : Below w.heap.size w w1 := hw1 ▸ (below_alloc w _).alloc (by simp) _
  have bx : Box w1 (w.heap.size + 1) v.k v.b v.n v.f v.s B v.l.length capb := hw1 ▸ Box.new2 w v.k v.b v.n v.f v.s B v.l.length capb _ _
  have hx7 : w.heap.size + 1 < w1.heap.size := by rw [hw1]; simp
  have z0 : w1.cell? ⟨w.heap.size, 0, none⟩ = some (.string (st [98, 101, 116, 119, 101, 101, 110])) := by rw [hw1]; simp [go_sem]
  have z1 : w1.cell? ⟨w.heap.size, 1, none⟩ = some (.slice (some ad) 2 cap) := by rw [hw1]; simp [go_sem]
  have z2 : w1.cell? ⟨w.heap.size, 2, none⟩ = some (.slice K 0 kcap) := by rw [hw1]; simp [go_sem]
  have z6 : w.heap.size < w1.heap.size := by omega
  rw [← hw1]
  clear hw1
  have d1 := fun p : In w1 => co p.w (p.back bk)
  have d2 := fun p : In w1 => co2 p.w (p.back bk)
  clear co co2
  obtain ⟨x6, x0, x1, x2, x3, x4, x5⟩ := bx
  obtain ⟨q6, q0, q1, q2, q3, q4, q5⟩ := hat.keep bk
  obtain ⟨r6, r0, r1, r2, r3, r4, r5⟩ := hat'.keep bk
  clear hat hat'
  cases t1
  · go_upto_region 24 with fail
    (refine wp_region_flow [] (by kernel_rfl) (by kernel_rfl) ?_; (repeat (((with_reducible refine wpFlow_steps ?_); intro K hK; go_simp; first | (with_reducible refine hK _ ?_; clear hK K) | (apply Exists.intro; (with_reducible refine ⟨fun _ => ⟨?_, _, rfl⟩, hK _ ?_⟩); (· exact rfl); clear hK K) | (apply Exists.intro; (with_reducible refine ⟨fun _ => ⟨_, rfl⟩, hK _ ?_⟩); clear hK K) | (apply Exists.intro; (with_reducible refine ⟨fun _ => ?_, hK _ ?_⟩); (· (with_reducible (first | exact d1 _ | exact d2 _))); clear hK K)))); (refine wpFlow_nil ?_; rintro w1 ⟨q0, hq0⟩; have hb := In.h q0; rw [← hq0] at hb; clear hq0 q0; (first | ((with_reducible obtain ⟨p, hw''⟩ := In.of2 p hb); subst hw'') | (obtain ⟨p, hw''⟩ := In.of hb; subst hw'')); go_simp; intros))
    go_wp2_with fail
    go_ret
    exact ⟨ret_bool (by simp), p.back bk⟩
  · go_upto_region 24 with fail
    (refine wp_region_flow [] (by kernel_rfl) (by kernel_rfl) ?_; (repeat (((with_reducible refine wpFlow_steps ?_); intro K hK; go_simp; first | (with_reducible refine hK _ ?_; clear hK K) | (apply Exists.intro; (with_reducible refine ⟨fun _ => ⟨?_, _, rfl⟩, hK _ ?_⟩); (· exact rfl); clear hK K) | (apply Exists.intro; (with_reducible refine ⟨fun _ => ⟨_, rfl⟩, hK _ ?_⟩); clear hK K) | (apply Exists.intro; (with_reducible refine ⟨fun _ => ?_, hK _ ?_⟩); (· (with_reducible (first | exact d1 _ | exact d2 _))); clear hK K)))); (refine wpFlow_nil ?_; rintro w1 ⟨q0, hq0⟩; have hb := In.h q0; rw [← hq0] at hb; clear hq0 q0; (first | ((with_reducible obtain ⟨p, hw''⟩ := In.of2 p hb); subst hw'') | (obtain ⟨p, hw''⟩ := In.of hb; subst hw'')); go_simp; intros))
    go_wp2_with fail
    go_ret
    exact ⟨ret_bool (by simp), p.back bk⟩
set_option maxRecDepth 8000 in
set_option maxHeartbeats 2000000 in
theorem tells_inside (v x y : Val) : Tells (.mk [105, 110, 115, 105, 100, 101] [x, y] []) v ((alikeV v x && decide (0 < cmpV v x)) && (alikeV v y && decide (cmpV v y < 0))) := by
  intro uq uv w m hq hv hm
  obtain ⟨A, cap, K, kcap, rfl, hs, hp, hl, hmx, hkl, hkm, hk⟩ := hq.open
  dsimp only [Pr.op, Pr.l, Pr.kids, List.length_cons, List.length_nil] at hs hp hl hmx hkl hkm hk ⊢
  clear hq hs hkl hkm
  obtain ⟨ad, kx, bx, nx, fx, sx, Bx, lenx, cx, had, hx, hat⟩ := hp 0 x rfl
  subst had
  rw [show ad.add (0 * 6) = ad from rfl] at hat
  obtain ⟨ad', ky, by', ny, fy, sy, By, leny, cy, had', hy, hat'⟩ := hp 1 y rfl
  obtain rfl := Option.some.inj had'
  rw [show ad.add (1 * 6) = ⟨ad.block, ad.off + 6, none⟩ from rfl] at hat'
  obtain ⟨B, capb, rfl, _⟩ := hv.open
  have co : ∀ w', Below w.heap.size w w' → Calls Try.prog 32 #[valV v.k v.b v.n v.f v.s B v.l.length capb, valV kx bx nx fx sx Bx lenx cx, .func (.func 35) #[] #[]] w' fun e w'' => e = .returned (.bool (alikeV v x && decide (0 < cmpV v x))) ∧ Below w'.heap.size w' w'' :=
    fun w' hb => order_above_c _ v _ x w' (hv.keep hb) (hx.keep hb)
  have co2 : ∀ w', Below w.heap.size w w' → Calls Try.prog 32 #[valV v.k v.b v.n v.f v.s B v.l.length capb, valV ky by' ny fy sy By leny cy, .func (.func 33) #[] #[]] w' fun e w'' => e = .returned (.bool (alikeV v y && decide (cmpV v y < 0))) ∧ Below w'.heap.size w' w'' :=
    fun w' hb => order_below_c _ v _ y w' (hv.keep hb) (hy.keep hb)
  clear hv hx hy hp hm hk hl hmx
  generalize (alikeV v x && decide (0 < cmpV v x)) = t1 at *
  generalize (alikeV v y && decide (cmpV v y < 0)) = t2 at *
  go_enter Try.func17, Try.ntmps17
  go_upto_region 1 with fail
  obtain ⟨w1, hw1⟩ : ∃ w1, w1 = (w.alloc (.cells #[.string (st [105, 110, 115, 105, 100, 101]), .slice (some ad) 2 cap, .slice K 0 kcap] 25)).alloc (.cells #[.int .i64 v.k, .bool v.b, .int .i64 v.n, .float .f64 v.f, .string (st v.s), .slice B v.l.length capb] 31) := ⟨_, rfl⟩
  have bk : Below w.heap.size w w1 := hw1 ▸ (below_alloc w _).alloc (by simp) _
  have bx : Box w1 (w.heap.size + 1) v.k v.b v.n v.f v.s B v.l.length capb := hw1 ▸ Box.new2 w v.k v.b v.n v.f v.s B v.l.length capb _ _
  have hx7 : w.heap.size + 1 < w1.heap.size := by rw [hw1]; simp
  have z0 : w1.cell? ⟨w.heap.size, 0, none⟩ = some (.string (st [105, 110, 115, 105, 100, 101])) := by rw [hw1]; simp [go_sem]
  have z1 : w1.cell? ⟨w.heap.size, 1, none⟩ = some (.slice (some ad) 2 cap) := by rw [hw1]; simp [go_sem]
  have z2 : w1.cell? ⟨w.heap.size, 2, none⟩ = some (.slice K 0 kcap) := by rw [hw1]; simp [go_sem]
  have z6 : w.heap.size < w1.heap.size := by omega
  rw [← hw1]
  clear hw1
  have d1 := fun p : In w1 => co p.w (p.back bk)
  have d2 := fun p : In w1 => co2 p.w (p.back bk)
  clear co co2
  obtain ⟨x6, x0, x1, x2, x3, x4, x5⟩ := bx
  obtain ⟨q6, q0, q1, q2, q3, q4, q5⟩ := hat.keep bk
  obtain ⟨r6, r0, r1, r2, r3, r4, r5⟩ := hat'.keep bk
  clear hat hat'
  cases t1
  · go_upto_region 26 with fail
    (refine wp_region_flow [] (by kernel_rfl) (by kernel_rfl) ?_; (repeat (((with_reducible refine wpFlow_steps ?_); intro K hK; go_simp; first | (with_reducible refine hK _ ?_; clear hK K) | (apply Exists.intro; (with_reducible refine ⟨fun _ => ⟨?_, _, rfl⟩, hK _ ?_⟩); (· exact rfl); clear hK K) | (apply Exists.intro; (with_reducible refine ⟨fun _ => ⟨_, rfl⟩, hK _ ?_⟩); clear hK K) | (apply Exists.intro; (with_reducible refine ⟨fun _ => ?_, hK _ ?_⟩); (· (with_reducible (first | exact d1 _ | exact d2 _))); clear hK K)))); (refine wpFlow_nil ?_; rintro w1 ⟨q0, hq0⟩; have hb := In.h q0; rw [← hq0] at hb; clear hq0 q0; (first | ((with_reducible obtain ⟨p, hw''⟩ := In.of2 p hb); subst hw'') | (obtain ⟨p, hw''⟩ := In.of hb; subst hw'')); go_simp; intros))
    go_wp2_with fail
    go_ret
    exact ⟨ret_bool (by simp), p.back bk⟩
  · go_upto_region 26 with fail
    (refine wp_region_flow [] (by kernel_rfl) (by kernel_rfl) ?_; (repeat (((with_reducible refine wpFlow_steps ?_); intro K hK; go_simp; first | (with_reducible refine hK _ ?_; clear hK K) | (apply Exists.intro; (with_reducible refine ⟨fun _ => ⟨?_, _, rfl⟩, hK _ ?_⟩); (· exact rfl); clear hK K) | (apply Exists.intro; (with_reducible refine ⟨fun _ => ⟨_, rfl⟩, hK _ ?_⟩); clear hK K) | (apply Exists.intro; (with_reducible refine ⟨fun _ => ?_, hK _ ?_⟩); (· (with_reducible (first | exact d1 _ | exact d2 _))); clear hK K)))); (refine wpFlow_nil ?_; rintro w1 ⟨q0, hq0⟩; have hb := In.h q0; rw [← hq0] at hb; clear hq0 q0; (first | ((with_reducible obtain ⟨p, hw''⟩ := In.of2 p hb); subst hw'') | (obtain ⟨p, hw''⟩ := In.of hb; subst hw'')); go_simp; intros))
    go_wp2_with fail
    go_ret
    exact ⟨ret_bool (by simp), p.back bk⟩
set_option maxRecDepth 8000 in
set_option maxHeartbeats 2000000 in
theorem tells_outside (v x y : Val) : Tells (.mk [111, 117, 116, 115, 105, 100, 101] [x, y] []) v ((alikeV v x && decide (cmpV v x < 0)) || (alikeV v y && decide (0 < cmpV v y))) := by
  intro uq uv w m hq hv hm
  obtain ⟨A, cap, K, kcap, rfl, hs, hp, hl, hmx, hkl, hkm, hk⟩ := hq.open
  dsimp only [Pr.op, Pr.l, Pr.kids, List.length_cons, List.length_nil] at hs hp hl hmx hkl hkm hk ⊢
  clear hq hs hkl hkm
  obtain ⟨ad, kx, bx, nx, fx, sx, Bx, lenx, cx, had, hx, hat⟩ := hp 0 x rfl
  subst had
  rw [show ad.add (0 * 6) = ad from rfl] at hat
  obtain ⟨ad', ky, by', ny, fy, sy, By, leny, cy, had', hy, hat'⟩ := hp 1 y rfl
  obtain rfl := Option.some.inj had'
  rw [show ad.add (1 * 6) = ⟨ad.block, ad.off + 6, none⟩ from rfl] at hat'
  obtain ⟨B, capb, rfl, _⟩ := hv.open
  have co : ∀ w', Below w.heap.size w w' → Calls Try.prog 32 #[valV v.k v.b v.n v.f v.s B v.l.length capb, valV kx bx nx fx sx Bx lenx cx, .func (.func 33) #[] #[]] w' fun e w'' => e = .returned (.bool (alikeV v x && decide (cmpV v x < 0))) ∧ Below w'.heap.size w' w'' :=
    fun w' hb => order_below_c _ v _ x w' (hv.keep hb) (hx.keep hb)
  have co2 : ∀ w', Below w.heap.size w w' → Calls Try.prog 32 #[valV v.k v.b v.n v.f v.s B v.l.length capb, valV ky by' ny fy sy By leny cy, .func (.func 35) #[] #[]] w' fun e w'' => e = .returned (.bool (alikeV v y && decide (0 < cmpV v y))) ∧ Below w'.heap.size w' w'' :=
    fun w' hb => order_above_c _ v _ y w' (hv.keep hb) (hy.keep hb)
  clear hv hx hy hp hm hk hl hmx
  generalize (alikeV v x && decide (cmpV v x < 0)) = t1 at *
  generalize (alikeV v y && decide (0 < cmpV v y)) = t2 at *
  go_enter Try.func17, Try.ntmps17
  go_upto_region 1 with fail
  obtain ⟨w1, hw1⟩ : ∃ w1, w1 = (w.alloc (.cells #[.string (st [111, 117, 116, 115, 105, 100, 101]), .slice (some ad) 2 cap, .slice K 0 kcap] 25)).alloc (.cells #[.int .i64 v.k, .bool v.b, .int .i64 v.n, .float .f64 v.f, .string (st v.s), .slice B v.l.length capb] 31) := ⟨_, rfl⟩
  have bk : Below w.heap.size w w1 := hw1 ▸ (below_alloc w _).alloc (by simp) _
  have bx : Box w1 (w.heap.size + 1) v.k v.b v.n v.f v.s B v.l.length capb := hw1 ▸ Box.new2 w v.k v.b v.n v.f v.s B v.l.length capb _ _
  have hx7 : w.heap.size + 1 < w1.heap.size := by rw [hw1]; simp
  have z0 : w1.cell? ⟨w.heap.size, 0, none⟩ = some (.string (st [111, 117, 116, 115, 105, 100, 101])) := by rw [hw1]; simp [go_sem]
  have z1 : w1.cell? ⟨w.heap.size, 1, none⟩ = some (.slice (some ad) 2 cap) := by rw [hw1]; simp [go_sem]
  have z2 : w1.cell? ⟨w.heap.size, 2, none⟩ = some (.slice K 0 kcap) := by rw [hw1]; simp [go_sem]
  have z6 : w.heap.size < w1.heap.size := by omega
  rw [← hw1]
  clear hw1
  have d1 := fun p : In w1 => co p.w (p.back bk)
  have d2 := fun p : In w1 => co2 p.w (p.back bk)
  clear co co2
  obtain ⟨x6, x0, x1, x2, x3, x4, x5⟩ := bx
  obtain ⟨q6, q0, q1, q2, q3, q4, q5⟩ := hat.keep bk
  obtain ⟨r6, r0, r1, r2, r3, r4, r5⟩ := hat'.keep bk
  clear hat hat'
  cases t1
  · go_upto_region 28 with fail
    (refine wp_region_flow [] (by kernel_rfl) (by kernel_rfl) ?_; (repeat (((with_reducible refine wpFlow_steps ?_); intro K hK; go_simp; first | (with_reducible refine hK _ ?_; clear hK K) | (apply Exists.intro; (with_reducible refine ⟨fun _ => ⟨?_, _, rfl⟩, hK _ ?_⟩); (· exact rfl); clear hK K) | (apply Exists.intro; (with_reducible refine ⟨fun _ => ⟨_, rfl⟩, hK _ ?_⟩); clear hK K) | (apply Exists.intro; (with_reducible refine ⟨fun _ => ?_, hK _ ?_⟩); (· (with_reducible (first | exact d1 _ | exact d2 _))); clear hK K)))); (refine wpFlow_nil ?_; rintro w1 ⟨q0, hq0⟩; have hb := In.h q0; rw [← hq0] at hb; clear hq0 q0; (first | ((with_reducible obtain ⟨p, hw''⟩ := In.of2 p hb); subst hw'') | (obtain ⟨p, hw''⟩ := In.of hb; subst hw'')); go_simp; intros))
    go_wp2_with fail
    go_ret
    exact ⟨ret_bool (by simp), p.back bk⟩
  · go_upto_region 28 with fail
    (refine wp_region_flow [] (by kernel_rfl) (by kernel_rfl) ?_; (repeat (((with_reducible refine wpFlow_steps ?_); intro K hK; go_simp; first | (with_reducible refine hK _ ?_; clear hK K) | (apply Exists.intro; (with_reducible refine ⟨fun _ => ⟨?_, _, rfl⟩, hK _ ?_⟩); (· exact rfl); clear hK K) | (apply Exists.intro; (with_reducible refine ⟨fun _ => ⟨_, rfl⟩, hK _ ?_⟩); clear hK K) | (apply Exists.intro; (with_reducible refine ⟨fun _ => ?_, hK _ ?_⟩); (· (with_reducible (first | exact d1 _ | exact d2 _))); clear hK K)))); (refine wpFlow_nil ?_; rintro w1 ⟨q0, hq0⟩; have hb := In.h q0; rw [← hq0] at hb; clear hq0 q0; (first | ((with_reducible obtain ⟨p, hw''⟩ := In.of2 p hb); subst hw'') | (obtain ⟨p, hw''⟩ := In.of hb; subst hw'')); go_simp; intros))
    go_wp2_with fail
    go_ret
    exact ⟨ret_bool (by simp), p.back bk⟩
set_option maxRecDepth 8000 in
set_option maxHeartbeats 2000000 in
theorem tells_startingWith (v x : Val) (hvs : v.s.length ≤ 4000000000) : Tells (.mk [115, 116, 97, 114, 116, 105, 110, 103, 87, 105, 116, 104] [x] []) v (v.k == 4 && x.k == 4 && Go.Lib.hasPrefix v.s x.s) := by
  intro uq uv w m hq hv hm
  obtain ⟨A, cap, K, kcap, rfl, hs, hp, hl, hmx, hkl, hkm, hk⟩ := hq.open
  dsimp only [Pr.op, Pr.l, Pr.kids, List.length_cons, List.length_nil] at hs hp hl hmx hkl hkm hk ⊢
  clear hq hs hkl hkm
  obtain ⟨ad, kx, bx, nx, fx, sx, Bx, lenx, cx, had, hx, hat⟩ := hp 0 x rfl
  subst had
  rw [show ad.add (0 * 6) = ad from rfl] at hat
  obtain ⟨B, capb, rfl, _⟩ := hv.open
  have hxk : x.k = kx ∧ x.s = sx := by
    obtain ⟨_, _, he, _⟩ := hx.open
    injection he with he
    injection he with he
    simp at he
    exact ⟨he.1.symm, by have := he.2.2.2.2.1; first | exact this.symm | exact (congrArg (fun b : ByteArray => b.data.toList) this).symm | simpa [st] using this.symm⟩
  rw [hxk.1, hxk.2]
  have co : ∀ w', Below w.heap.size w w' → Calls Try.prog 37 #[.string (st [115, 116, 97, 114, 116, 105, 110, 103, 87, 105, 116, 104]), valV v.k v.b v.n v.f v.s B v.l.length capb, valV kx bx nx fx sx Bx lenx cx] w' fun e w'' => e = .returned (.bool (v.k == 4 && kx == 4 && Go.Lib.hasPrefix v.s sx)) ∧ Below w'.heap.size w' w'' :=
    fun w' hb => text_start_c v.k v.b v.n v.f v.s B v.l.length capb kx bx nx fx sx Bx lenx cx w' hvs
  clear hv hx hp hk hl hmx hxk hm hvs
  generalize (v.k == 4 && kx == 4 && Go.Lib.hasPrefix v.s sx) = q at *
  go_enter Try.func17, Try.ntmps17
  go_upto_region 1 with fail
  obtain ⟨w1, hw1⟩ : ∃ w1, w1 = (w.alloc (.cells #[.string (st [115, 116, 97, 114, 116, 105, 110, 103, 87, 105, 116, 104]), .slice (some ad) 1 cap, .slice K 0 kcap] 25)).alloc (.cells #[.int .i64 v.k, .bool v.b, .int .i64 v.n, .float .f64 v.f, .string (st v.s), .slice B v.l.length capb] 31) := ⟨_, rfl⟩
  have bk : Below w.heap.size w w1 := hw1 ▸ (below_alloc w _).alloc (by simp) _
  have bx : Box w1 (w.heap.size + 1) v.k v.b v.n v.f v.s B v.l.length capb := hw1 ▸ Box.new2 w v.k v.b v.n v.f v.s B v.l.length capb _ _
  have hx7 : w.heap.size + 1 < w1.heap.size := by rw [hw1]; simp
  have z0 : w1.cell? ⟨w.heap.size, 0, none⟩ = some (.string (st [115, 116, 97, 114, 116, 105, 110, 103, 87, 105, 116, 104])) := by rw [hw1]; simp [go_sem]
  have z1 : w1.cell? ⟨w.heap.size, 1, none⟩ = some (.slice (some ad) 1 cap) := by rw [hw1]; simp [go_sem]
  have z2 : w1.cell? ⟨w.heap.size, 2, none⟩ = some (.slice K 0 kcap) := by rw [hw1]; simp [go_sem]
  have z6 : w.heap.size < w1.heap.size := by omega
  rw [← hw1]
  clear hw1
  have d1 := fun p : In w1 => co p.w (p.back bk)
  clear co
  obtain ⟨x6, x0, x1, x2, x3, x4, x5⟩ := bx
  obtain ⟨q6, q0, q1, q2, q3, q4, q5⟩ := hat.keep bk
  clear hat
  go_upto_region 29 with fail
  (refine wp_region_flow [] (by kernel_rfl) (by kernel_rfl) ?_; (repeat (((with_reducible refine wpFlow_steps ?_); intro K hK; go_simp; first | (with_reducible refine hK _ ?_; clear hK K) | (apply Exists.intro; (with_reducible refine ⟨fun _ => ⟨?_, _, rfl⟩, hK _ ?_⟩); (· exact rfl); clear hK K) | (apply Exists.intro; (with_reducible refine ⟨fun _ => ⟨_, rfl⟩, hK _ ?_⟩); clear hK K) | (apply Exists.intro; (with_reducible refine ⟨fun _ => ?_, hK _ ?_⟩); (· (with_reducible (exact d1 _))); clear hK K)))); (refine wpFlow_nil ?_; rintro w1 ⟨q0, hq0⟩; have hb := In.h q0; rw [← hq0] at hb; clear hq0 q0; (first | ((with_reducible obtain ⟨p, hw''⟩ := In.of2 p hb); subst hw'') | (obtain ⟨p, hw''⟩ := In.of hb; subst hw'')); go_simp; intros))
  go_wp2_with fail
  go_ret
  exact ⟨rfl, p.back bk⟩
set_option maxRecDepth 8000 in
set_option maxHeartbeats 2000000 in
theorem tells_endingWith (v x : Val) (hvs : v.s.length ≤ 4000000000) : Tells (.mk [101, 110, 100, 105, 110, 103, 87, 105, 116, 104] [x] []) v (v.k == 4 && x.k == 4 && Go.Lib.hasSuffix v.s x.s) := by
  intro uq uv w m hq hv hm
  obtain ⟨A, cap, K, kcap, rfl, hs, hp, hl, hmx, hkl, hkm, hk⟩ := hq.open
  dsimp only [Pr.op, Pr.l, Pr.kids, List.length_cons, List.length_nil] at hs hp hl hmx hkl hkm hk ⊢
  clear hq hs hkl hkm
  obtain ⟨ad, kx, bx, nx, fx, sx, Bx, lenx, cx, had, hx, hat⟩ := hp 0 x rfl
  subst had
  rw [show ad.add (0 * 6) = ad from rfl] at hat
  obtain ⟨B, capb, rfl, _⟩ := hv.open
  have hxk : x.k = kx ∧ x.s = sx := by
    obtain ⟨_, _, he, _⟩ := hx.open
    injection he with he
    injection he with he
    simp at he
    exact ⟨he.1.symm, by have := he.2.2.2.2.1; first | exact this.symm | exact (congrArg (fun b : ByteArray => b.data.toList) this).symm | simpa [st] using this.symm⟩
  rw [hxk.1, hxk.2]
  have co : ∀ w', Below w.heap.size w w' → Calls Try.prog 37 #[.string (st [101, 110, 100, 105, 110, 103, 87, 105, 116, 104]), valV v.k v.b v.n v.f v.s B v.l.length capb, valV kx bx nx fx sx Bx lenx cx] w' fun e w'' => e = .returned (.bool (v.k == 4 && kx == 4 && Go.Lib.hasSuffix v.s sx)) ∧ Below w'.heap.size w' w'' :=
    fun w' hb => text_end_c v.k v.b v.n v.f v.s B v.l.length capb kx bx nx fx sx Bx lenx cx w' hvs
  clear hv hx hp hk hl hmx hxk hm hvs
  generalize (v.k == 4 && kx == 4 && Go.Lib.hasSuffix v.s sx) = q at *
  go_enter Try.func17, Try.ntmps17
  go_upto_region 1 with fail
  obtain ⟨w1, hw1⟩ : ∃ w1, w1 = (w.alloc (.cells #[.string (st [101, 110, 100, 105, 110, 103, 87, 105, 116, 104]), .slice (some ad) 1 cap, .slice K 0 kcap] 25)).alloc (.cells #[.int .i64 v.k, .bool v.b, .int .i64 v.n, .float .f64 v.f, .string (st v.s), .slice B v.l.length capb] 31) := ⟨_, rfl⟩
  have bk : Below w.heap.size w w1 := hw1 ▸ (below_alloc w _).alloc (by simp) _
  have bx : Box w1 (w.heap.size + 1) v.k v.b v.n v.f v.s B v.l.length capb := hw1 ▸ Box.new2 w v.k v.b v.n v.f v.s B v.l.length capb _ _
  have hx7 : w.heap.size + 1 < w1.heap.size := by rw [hw1]; simp
  have z0 : w1.cell? ⟨w.heap.size, 0, none⟩ = some (.string (st [101, 110, 100, 105, 110, 103, 87, 105, 116, 104])) := by rw [hw1]; simp [go_sem]
  have z1 : w1.cell? ⟨w.heap.size, 1, none⟩ = some (.slice (some ad) 1 cap) := by rw [hw1]; simp [go_sem]
  have z2 : w1.cell? ⟨w.heap.size, 2, none⟩ = some (.slice K 0 kcap) := by rw [hw1]; simp [go_sem]
  have z6 : w.heap.size < w1.heap.size := by omega
  rw [← hw1]
  clear hw1
  have d1 := fun p : In w1 => co p.w (p.back bk)
  clear co
  obtain ⟨x6, x0, x1, x2, x3, x4, x5⟩ := bx
  obtain ⟨q6, q0, q1, q2, q3, q4, q5⟩ := hat.keep bk
  clear hat
  go_upto_region 29 with fail
  (refine wp_region_flow [] (by kernel_rfl) (by kernel_rfl) ?_; (repeat (((with_reducible refine wpFlow_steps ?_); intro K hK; go_simp; first | (with_reducible refine hK _ ?_; clear hK K) | (apply Exists.intro; (with_reducible refine ⟨fun _ => ⟨?_, _, rfl⟩, hK _ ?_⟩); (· exact rfl); clear hK K) | (apply Exists.intro; (with_reducible refine ⟨fun _ => ⟨_, rfl⟩, hK _ ?_⟩); clear hK K) | (apply Exists.intro; (with_reducible refine ⟨fun _ => ?_, hK _ ?_⟩); (· (with_reducible (exact d1 _))); clear hK K)))); (refine wpFlow_nil ?_; rintro w1 ⟨q0, hq0⟩; have hb := In.h q0; rw [← hq0] at hb; clear hq0 q0; (first | ((with_reducible obtain ⟨p, hw''⟩ := In.of2 p hb); subst hw'') | (obtain ⟨p, hw''⟩ := In.of hb; subst hw'')); go_simp; intros))
  go_wp2_with fail
  go_ret
  exact ⟨rfl, p.back bk⟩
set_option maxRecDepth 8000 in
set_option maxHeartbeats 2000000 in
theorem tells_containing (v x : Val) (hvs : v.s.length ≤ 4000000000) : Tells (.mk [99, 111, 110, 116, 97, 105, 110, 105, 110, 103] [x] []) v (v.k == 4 && x.k == 4 && Go.Lib.contains v.s x.s) := by
  intro uq uv w m hq hv hm
  obtain ⟨A, cap, K, kcap, rfl, hs, hp, hl, hmx, hkl, hkm, hk⟩ := hq.open
  dsimp only [Pr.op, Pr.l, Pr.kids, List.length_cons, List.length_nil] at hs hp hl hmx hkl hkm hk ⊢
  clear hq hs hkl hkm
  obtain ⟨ad, kx, bx, nx, fx, sx, Bx, lenx, cx, had, hx, hat⟩ := hp 0 x rfl
  subst had
  rw [show ad.add (0 * 6) = ad from rfl] at hat
  obtain ⟨B, capb, rfl, _⟩ := hv.open
  have hxk : x.k = kx ∧ x.s = sx := by
    obtain ⟨_, _, he, _⟩ := hx.open
    injection he with he
    injection he with he
    simp at he
    exact ⟨he.1.symm, by have := he.2.2.2.2.1; first | exact this.symm | exact (congrArg (fun b : ByteArray => b.data.toList) this).symm | simpa [st] using this.symm⟩
  rw [hxk.1, hxk.2]
  have co : ∀ w', Below w.heap.size w w' → Calls Try.prog 37 #[.string (st [99, 111, 110, 116, 97, 105, 110, 105, 110, 103]), valV v.k v.b v.n v.f v.s B v.l.length capb, valV kx bx nx fx sx Bx lenx cx] w' fun e w'' => e = .returned (.bool (v.k == 4 && kx == 4 && Go.Lib.contains v.s sx)) ∧ Below w'.heap.size w' w'' :=
    fun w' hb => text_has_c v.k v.b v.n v.f v.s B v.l.length capb kx bx nx fx sx Bx lenx cx w' hvs m ((hb.cell (p := ⟨maxG, 0, none⟩) (World.block_lt_of_cell? w ⟨maxG, 0, none⟩ hm)).trans hm)
  clear hv hx hp hk hl hmx hxk hm hvs
  generalize (v.k == 4 && kx == 4 && Go.Lib.contains v.s sx) = q at *
  go_enter Try.func17, Try.ntmps17
  go_upto_region 1 with fail
  obtain ⟨w1, hw1⟩ : ∃ w1, w1 = (w.alloc (.cells #[.string (st [99, 111, 110, 116, 97, 105, 110, 105, 110, 103]), .slice (some ad) 1 cap, .slice K 0 kcap] 25)).alloc (.cells #[.int .i64 v.k, .bool v.b, .int .i64 v.n, .float .f64 v.f, .string (st v.s), .slice B v.l.length capb] 31) := ⟨_, rfl⟩
  have bk : Below w.heap.size w w1 := hw1 ▸ (below_alloc w _).alloc (by simp) _
  have bx : Box w1 (w.heap.size + 1) v.k v.b v.n v.f v.s B v.l.length capb := hw1 ▸ Box.new2 w v.k v.b v.n v.f v.s B v.l.length capb _ _
  have hx7 : w.heap.size + 1 < w1.heap.size := by rw [hw1]; simp
  have z0 : w1.cell? ⟨w.heap.size, 0, none⟩ = some (.string (st [99, 111, 110, 116, 97, 105, 110, 105, 110, 103])) := by rw [hw1]; simp [go_sem]
  have z1 : w1.cell? ⟨w.heap.size, 1, none⟩ = some (.slice (some ad) 1 cap) := by rw [hw1]; simp [go_sem]
  have z2 : w1.cell? ⟨w.heap.size, 2, none⟩ = some (.slice K 0 kcap) := by rw [hw1]; simp [go_sem]
  have z6 : w.heap.size < w1.heap.size := by omega
  rw [← hw1]
  clear hw1
  have d1 := fun p : In w1 => co p.w (p.back bk)
  clear co
  obtain ⟨x6, x0, x1, x2, x3, x4, x5⟩ := bx
  obtain ⟨q6, q0, q1, q2, q3, q4, q5⟩ := hat.keep bk
  clear hat
  go_upto_region 29 with fail
  (refine wp_region_flow [] (by kernel_rfl) (by kernel_rfl) ?_; (repeat (((with_reducible refine wpFlow_steps ?_); intro K hK; go_simp; first | (with_reducible refine hK _ ?_; clear hK K) | (apply Exists.intro; (with_reducible refine ⟨fun _ => ⟨?_, _, rfl⟩, hK _ ?_⟩); (· exact rfl); clear hK K) | (apply Exists.intro; (with_reducible refine ⟨fun _ => ⟨_, rfl⟩, hK _ ?_⟩); clear hK K) | (apply Exists.intro; (with_reducible refine ⟨fun _ => ?_, hK _ ?_⟩); (· (with_reducible (exact d1 _))); clear hK K)))); (refine wpFlow_nil ?_; rintro w1 ⟨q0, hq0⟩; have hb := In.h q0; rw [← hq0] at hb; clear hq0 q0; (first | ((with_reducible obtain ⟨p, hw''⟩ := In.of2 p hb); subst hw'') | (obtain ⟨p, hw''⟩ := In.of hb; subst hw'')); go_simp; intros))
  go_wp2_with fail
  go_ret
  exact ⟨rfl, p.back bk⟩
set_option maxRecDepth 8000 in
set_option maxHeartbeats 2000000 in
theorem tells_and (v : Val) (a b : Pr) (x y : Bool) (ta : Tells a v x) (tb : Tells b v y) : Tells (.mk [97, 110, 100] [] [a, b]) v (x && y) := by
  intro uq uv w m hq hv hm
  obtain ⟨A, cap, K, kcap, rfl, hs, hp, hl, hmx, hkl, hkm, hk⟩ := hq.open
  dsimp only [Pr.op, Pr.l, Pr.kids, List.length_cons, List.length_nil] at hs hp hl hmx hkl hkm hk ⊢
  clear hq hs hkl hkm
  obtain ⟨ad0, op0, B0, n0, c0, J0, jn0, jc0, had0, ha, hat0⟩ := hk 0 a rfl
  subst had0
  rw [show ad0.add (0 * 3) = ad0 from rfl] at hat0
  obtain ⟨ad1, op1, B1, n1, c1, J1, jn1, jc1, had1, hb, hat1⟩ := hk 1 b rfl
  obtain rfl := Option.some.inj had1
  rw [show ad0.add (1 * 3) = ⟨ad0.block, ad0.off + 3, none⟩ from rfl] at hat1
  obtain ⟨B, capb, rfl, _⟩ := hv.open
  have co0 : ∀ w', Below w.heap.size w w' → Calls Try.prog 17 #[predV op0 B0 n0 c0 J0 jn0 jc0, valV v.k v.b v.n v.f v.s B v.l.length capb] w' fun e w'' => e = .returned (.bool x) ∧ Below w'.heap.size w' w'' :=
    fun w' hw => ta _ _ w' m (ha.keep hw) (hv.keep hw) ((hw.cell (p := ⟨maxG, 0, none⟩) (World.block_lt_of_cell? w ⟨maxG, 0, none⟩ hm)).trans hm)
  have co1 : ∀ w', Below w.heap.size w w' → Calls Try.prog 17 #[predV op1 B1 n1 c1 J1 jn1 jc1, valV v.k v.b v.n v.f v.s B v.l.length capb] w' fun e w'' => e = .returned (.bool y) ∧ Below w'.heap.size w' w'' :=
    fun w' hw => tb _ _ w' m (hb.keep hw) (hv.keep hw) ((hw.cell (p := ⟨maxG, 0, none⟩) (World.block_lt_of_cell? w ⟨maxG, 0, none⟩ hm)).trans hm)
  clear hv ha hb hp hk hl hmx hm ta tb
  go_enter Try.func17, Try.ntmps17
  go_upto_region 1 with fail
  obtain ⟨w1, hw1⟩ : ∃ w1, w1 = (w.alloc (.cells #[.string (st [97, 110, 100]), .slice A 0 cap, .slice (some ad0) 2 kcap] 25)).alloc (.cells #[.int .i64 v.k, .bool v.b, .int .i64 v.n, .float .f64 v.f, .string (st v.s), .slice B v.l.length capb] 31) := ⟨_, rfl⟩
  have bk : Below w.heap.size w w1 := hw1 ▸ (below_alloc w _).alloc (by simp) _
  have bx : Box w1 (w.heap.size + 1) v.k v.b v.n v.f v.s B v.l.length capb := hw1 ▸ Box.new2 w v.k v.b v.n v.f v.s B v.l.length capb _ _
  have hx7 : w.heap.size + 1 < w1.heap.size := by rw [hw1]; simp
  have z0 : w1.cell? ⟨w.heap.size, 0, none⟩ = some (.string (st [97, 110, 100])) := by rw [hw1]; simp [go_sem]
  have z1 : w1.cell? ⟨w.heap.size, 1, none⟩ = some (.slice A 0 cap) := by rw [hw1]; simp [go_sem]
  have z2 : w1.cell? ⟨w.heap.size, 2, none⟩ = some (.slice (some ad0) 2 kcap) := by rw [hw1]; simp [go_sem]
  have z6 : w.heap.size < w1.heap.size := by omega
  rw [← hw1]
  clear hw1
  have d1 := fun p : In w1 => co0 p.w (p.back bk)
  have d2 := fun p : In w1 => co1 p.w (p.back bk)
  clear co0 co1
  obtain ⟨x6, x0, x1, x2, x3, x4, x5⟩ := bx
  obtain ⟨q6, q0, q1, q2⟩ := hat0.keep bk
  obtain ⟨r6, r0, r1, r2⟩ := hat1.keep bk
  clear hat0 hat1
  cases x
  · go_upto_region 4 with fail
    (refine wp_region_flow [] (by kernel_rfl) (by kernel_rfl) ?_; (repeat (((with_reducible refine wpFlow_steps ?_); intro K hK; go_simp; first | (with_reducible refine hK _ ?_; clear hK K) | (apply Exists.intro; (with_reducible refine ⟨fun _ => ⟨?_, _, rfl⟩, hK _ ?_⟩); (· exact rfl); clear hK K) | (apply Exists.intro; (with_reducible refine ⟨fun _ => ⟨_, rfl⟩, hK _ ?_⟩); clear hK K) | (apply Exists.intro; (with_reducible refine ⟨fun _ => ?_, hK _ ?_⟩); (· (with_reducible (first | exact d1 _ | exact d2 _))); clear hK K)))); (refine wpFlow_nil ?_; rintro w1 ⟨q0, hq0⟩; have hb := In.h q0; rw [← hq0] at hb; clear hq0 q0; (first | ((with_reducible obtain ⟨p, hw''⟩ := In.of2 p hb); subst hw'') | (obtain ⟨p, hw''⟩ := In.of hb; subst hw'')); go_simp; intros))
    go_wp2_with fail
    go_ret
    exact ⟨ret_bool (by simp), p.back bk⟩
  · go_upto_region 4 with fail
    (refine wp_region_flow [] (by kernel_rfl) (by kernel_rfl) ?_; (repeat (((with_reducible refine wpFlow_steps ?_); intro K hK; go_simp; first | (with_reducible refine hK _ ?_; clear hK K) | (apply Exists.intro; (with_reducible refine ⟨fun _ => ⟨?_, _, rfl⟩, hK _ ?_⟩); (· exact rfl); clear hK K) | (apply Exists.intro; (with_reducible refine ⟨fun _ => ⟨_, rfl⟩, hK _ ?_⟩); clear hK K) | (apply Exists.intro; (with_reducible refine ⟨fun _ => ?_, hK _ ?_⟩); (· (with_reducible (first | exact d1 _ | exact d2 _))); clear hK K)))); (refine wpFlow_nil ?_; rintro w1 ⟨q0, hq0⟩; have hb := In.h q0; rw [← hq0] at hb; clear hq0 q0; (first | ((with_reducible obtain ⟨p, hw''⟩ := In.of2 p hb); subst hw'') | (obtain ⟨p, hw''⟩ := In.of hb; subst hw'')); go_simp; intros))
    go_wp2_with fail
    go_ret
    exact ⟨ret_bool (by simp), p.back bk⟩
set_option maxRecDepth 8000 in
set_option maxHeartbeats 2000000 in
theorem tells_or (v : Val) (a b : Pr) (x y : Bool) (ta : Tells a v x) (tb : Tells b v y) : Tells (.mk [111, 114] [] [a, b]) v (x || y) := by
  intro uq uv w m hq hv hm
  obtain ⟨A, cap, K, kcap, rfl, hs, hp, hl, hmx, hkl, hkm, hk⟩ := hq.open
  dsimp only [Pr.op, Pr.l, Pr.kids, List.length_cons, List.length_nil] at hs hp hl hmx hkl hkm hk ⊢
  clear hq hs hkl hkm
  obtain ⟨ad0, op0, B0, n0, c0, J0, jn0, jc0, had0, ha, hat0⟩ := hk 0 a rfl
  subst had0
  rw [show ad0.add (0 * 3) = ad0 from rfl] at hat0
  obtain ⟨ad1, op1, B1, n1, c1, J1, jn1, jc1, had1, hb, hat1⟩ := hk 1 b rfl
  obtain rfl := Option.some.inj had1
  rw [show ad0.add (1 * 3) = ⟨ad0.block, ad0.off + 3, none⟩ from rfl] at hat1
  obtain ⟨B, capb, rfl, _⟩ := hv.open
  have co0 : ∀ w', Below w.heap.size w w' → Calls Try.prog 17 #[predV op0 B0 n0 c0 J0 jn0 jc0, valV v.k v.b v.n v.f v.s B v.l.length capb] w' fun e w'' => e = .returned (.bool x) ∧ Below w'.heap.size w' w'' :=
    fun w' hw => ta _ _ w' m (ha.keep hw) (hv.keep hw) ((hw.cell (p := ⟨maxG, 0, none⟩) (World.block_lt_of_cell? w ⟨maxG, 0, none⟩ hm)).trans hm)
  have co1 : ∀ w', Below w.heap.size w w' → Calls Try.prog 17 #[predV op1 B1 n1 c1 J1 jn1 jc1, valV v.k v.b v.n v.f v.s B v.l.length capb] w' fun e w'' => e = .returned (.bool y) ∧ Below w'.heap.size w' w'' :=
    fun w' hw => tb _ _ w' m (hb.keep hw) (hv.keep hw) ((hw.cell (p := ⟨maxG, 0, none⟩) (World.block_lt_of_cell? w ⟨maxG, 0, none⟩ hm)).trans hm)
  clear hv ha hb hp hk hl hmx hm ta tb
  go_enter Try.func17, Try.ntmps17
  go_upto_region 1 with fail
  obtain ⟨w1, hw1⟩ : ∃ w1, w1 = (w.alloc (.cells #[.string (st [111, 114]), .slice A 0 cap, .slice (some ad0) 2 kcap] 25)).alloc (.cells #[.int .i64 v.k, .bool v.b, .int .i64 v.n, .float .f64 v.f, .string (st v.s), .slice B v.l.length capb] 31) := ⟨_, rfl⟩
  have bk : Below w.heap.size w w1 := hw1 ▸ (below_alloc w _).alloc (by simp) _
  have bx : Box w1 (w.heap.size + 1) v.k v.b v.n v.f v.s B v.l.length capb := hw1 ▸ Box.new2 w v.k v.b v.n v.f v.s B v.l.length capb _ _
  have hx7 : w.heap.size + 1 < w1.heap.size := by rw [hw1]; simp
  have z0 : w1.cell? ⟨w.heap.size, 0, none⟩ = some (.string (st [111, 114])) := by rw [hw1]; simp [go_sem]
  have z1 : w1.cell? ⟨w.heap.size, 1, none⟩ = some (.slice A 0 cap) := by rw [hw1]; simp [go_sem]
  have z2 : w1.cell? ⟨w.heap.size, 2, none⟩ = some (.slice (some ad0) 2 kcap) := by rw [hw1]; simp [go_sem]
  have z6 : w.heap.size < w1.heap.size := by omega
  rw [← hw1]
  clear hw1
  have d1 := fun p : In w1 => co0 p.w (p.back bk)
  have d2 := fun p : In w1 => co1 p.w (p.back bk)
  clear co0 co1
  obtain ⟨x6, x0, x1, x2, x3, x4, x5⟩ := bx
  obtain ⟨q6, q0, q1, q2⟩ := hat0.keep bk
  obtain ⟨r6, r0, r1, r2⟩ := hat1.keep bk
  clear hat0 hat1
  cases x
  · go_upto_region 6 with fail
    (refine wp_region_flow [] (by kernel_rfl) (by kernel_rfl) ?_; (repeat (((with_reducible refine wpFlow_steps ?_); intro K hK; go_simp; first | (with_reducible refine hK _ ?_; clear hK K) | (apply Exists.intro; (with_reducible refine ⟨fun _ => ⟨?_, _, rfl⟩, hK _ ?_⟩); (· exact rfl); clear hK K) | (apply Exists.intro; (with_reducible refine ⟨fun _ => ⟨_, rfl⟩, hK _ ?_⟩); clear hK K) | (apply Exists.intro; (with_reducible refine ⟨fun _ => ?_, hK _ ?_⟩); (· (with_reducible (first | exact d1 _ | exact d2 _))); clear hK K)))); (refine wpFlow_nil ?_; rintro w1 ⟨q0, hq0⟩; have hb := In.h q0; rw [← hq0] at hb; clear hq0 q0; (first | ((with_reducible obtain ⟨p, hw''⟩ := In.of2 p hb); subst hw'') | (obtain ⟨p, hw''⟩ := In.of hb; subst hw'')); go_simp; intros))
    go_wp2_with fail
    go_ret
    exact ⟨ret_bool (by simp), p.back bk⟩
  · go_upto_region 6 with fail
    (refine wp_region_flow [] (by kernel_rfl) (by kernel_rfl) ?_; (repeat (((with_reducible refine wpFlow_steps ?_); intro K hK; go_simp; first | (with_reducible refine hK _ ?_; clear hK K) | (apply Exists.intro; (with_reducible refine ⟨fun _ => ⟨?_, _, rfl⟩, hK _ ?_⟩); (· exact rfl); clear hK K) | (apply Exists.intro; (with_reducible refine ⟨fun _ => ⟨_, rfl⟩, hK _ ?_⟩); clear hK K) | (apply Exists.intro; (with_reducible refine ⟨fun _ => ?_, hK _ ?_⟩); (· (with_reducible (first | exact d1 _ | exact d2 _))); clear hK K)))); (refine wpFlow_nil ?_; rintro w1 ⟨q0, hq0⟩; have hb := In.h q0; rw [← hq0] at hb; clear hq0 q0; (first | ((with_reducible obtain ⟨p, hw''⟩ := In.of2 p hb); subst hw'') | (obtain ⟨p, hw''⟩ := In.of hb; subst hw'')); go_simp; intros))
    go_wp2_with fail
    go_ret
    exact ⟨ret_bool (by simp), p.back bk⟩
set_option maxRecDepth 8000 in
set_option maxHeartbeats 2000000 in
theorem tells_not (v : Val) (a : Pr) (x : Bool) (ta : Tells a v x) : Tells (.mk [110, 111, 116] [] [a]) v (!x) := by
  intro uq uv w m hq hv hm
  obtain ⟨A, cap, K, kcap, rfl, hs, hp, hl, hmx, hkl, hkm, hk⟩ := hq.open
  dsimp only [Pr.op, Pr.l, Pr.kids, List.length_cons, List.length_nil] at hs hp hl hmx hkl hkm hk ⊢
  clear hq hs hkl hkm
  obtain ⟨ad0, op0, B0, n0, c0, J0, jn0, jc0, had0, ha, hat0⟩ := hk 0 a rfl
  subst had0
  rw [show ad0.add (0 * 3) = ad0 from rfl] at hat0
  obtain ⟨B, capb, rfl, _⟩ := hv.open
  have co0 : ∀ w', Below w.heap.size w w' → Calls Try.prog 17 #[predV op0 B0 n0 c0 J0 jn0 jc0, valV v.k v.b v.n v.f v.s B v.l.length capb] w' fun e w'' => e = .returned (.bool x) ∧ Below w'.heap.size w' w'' :=
    fun w' hw => ta _ _ w' m (ha.keep hw) (hv.keep hw) ((hw.cell (p := ⟨maxG, 0, none⟩) (World.block_lt_of_cell? w ⟨maxG, 0, none⟩ hm)).trans hm)
  clear hv ha hp hk hl hmx hm ta
  go_enter Try.func17, Try.ntmps17
  go_upto_region 1 with fail
  obtain ⟨w1, hw1⟩ : ∃ w1, w1 = (w.alloc (.cells #[.string (st [110, 111, 116]), .slice A 0 cap, .slice (some ad0) 1 kcap] 25)).alloc (.cells #[.int .i64 v.k, .bool v.b, .int .i64 v.n, .float .f64 v.f, .string (st v.s), .slice B v.l.length capb] 31) := ⟨_, rfl⟩
  have bk : Below w.heap.size w w1 := hw1 ▸ (below_alloc w _).alloc (by simp) _
  have bx : Box w1 (w.heap.size + 1) v.k v.b v.n v.f v.s B v.l.length capb := hw1 ▸ Box.new2 w v.k v.b v.n v.f v.s B v.l.length capb _ _
  have hx7 : w.heap.size + 1 < w1.heap.size := by rw [hw1]; simp
  have z0 : w1.cell? ⟨w.heap.size, 0, none⟩ = some (.string (st [110, 111, 116])) := by rw [hw1]; simp [go_sem]
  have z1 : w1.cell? ⟨w.heap.size, 1, none⟩ = some (.slice A 0 cap) := by rw [hw1]; simp [go_sem]
  have z2 : w1.cell? ⟨w.heap.size, 2, none⟩ = some (.slice (some ad0) 1 kcap) := by rw [hw1]; simp [go_sem]
  have z6 : w.heap.size < w1.heap.size := by omega
  rw [← hw1]
  clear hw1
  have d1 := fun p : In w1 => co0 p.w (p.back bk)
  clear co0
  obtain ⟨x6, x0, x1, x2, x3, x4, x5⟩ := bx
  obtain ⟨q6, q0, q1, q2⟩ := hat0.keep bk
  clear hat0
  go_upto_region 8 with fail
  (refine wp_region_flow [] (by kernel_rfl) (by kernel_rfl) ?_; (repeat (((with_reducible refine wpFlow_steps ?_); intro K hK; go_simp; first | (with_reducible refine hK _ ?_; clear hK K) | (apply Exists.intro; (with_reducible refine ⟨fun _ => ⟨?_, _, rfl⟩, hK _ ?_⟩); (· exact rfl); clear hK K) | (apply Exists.intro; (with_reducible refine ⟨fun _ => ⟨_, rfl⟩, hK _ ?_⟩); clear hK K) | (apply Exists.intro; (with_reducible refine ⟨fun _ => ?_, hK _ ?_⟩); (· (with_reducible (exact d1 _))); clear hK K)))); (refine wpFlow_nil ?_; rintro w1 ⟨q0, hq0⟩; have hb := In.h q0; rw [← hq0] at hb; clear hq0 q0; (first | ((with_reducible obtain ⟨p, hw''⟩ := In.of2 p hb); subst hw'') | (obtain ⟨p, hw''⟩ := In.of hb; subst hw'')); go_simp; intros))
  go_wp2_with fail
  go_ret
  exact ⟨rfl, p.back bk⟩
theorem anyBad_get {l : List Val} (h : anyBad l = false) {i : Nat} {x : Val} (hx : l[i]? = some x) : CheckV x = 0 := by
  unfold anyBad at h
  rw [List.any_eq_false] at h
  have := h x (List.mem_of_getElem? hx)
  simpa using this
/-- a predicate that may be tells of each value the one or the other -/
theorem tells_any (v : Val) (hvs : v.s.length ≤ 4000000000) (q : Pr) : ∀ d, checkQ q d = true → ∃ b, Tells q v b := by
  generalize hz : qsz q = z
  induction z using Nat.strongRecOn generalizing q with
  | _ z ih =>
    intro d hc
    have hpart := fun i x => qsz_part (q := q) (x := x) (i := i)
    rw [hz] at hpart
    obtain ⟨op, l, kids⟩ := q
    dsimp only [Pr.op, Pr.l, Pr.kids] at *
    rw [checkQ] at hc
    simp only [Bool.and_eq_true] at hc
    obtain ⟨⟨⟨_, hsh⟩, _⟩, hk⟩ := hc
    unfold shapeQ at hsh
    rw [Bool.and_eq_true] at hsh
    obtain ⟨_, hsh⟩ := hsh
    split at hsh
    · rename_i hop
      simp only [Bool.and_eq_true, decide_eq_true_eq] at hsh
      obtain ⟨h0, h2⟩ := hsh
      obtain rfl := List.length_eq_zero_iff.1 h0
      match kids, h2 with
      | [a, b], _ =>
        simp only [checkQL, Bool.and_eq_true] at hk
        obtain ⟨x, tx⟩ := ih _ (hpart 0 a rfl) a rfl _ hk.1
        obtain ⟨y, ty⟩ := ih _ (hpart 1 b rfl) b rfl _ hk.2.1
        rcases hop with rfl | rfl
        · exact ⟨_, tells_and v a b x y tx ty⟩
        · exact ⟨_, tells_or v a b x y tx ty⟩
    · split at hsh
      · rename_i hop
        subst hop
        simp only [Bool.and_eq_true, decide_eq_true_eq] at hsh
        obtain ⟨h0, h2⟩ := hsh
        obtain rfl := List.length_eq_zero_iff.1 h0
        match kids, h2 with
        | [a], _ =>
          simp only [checkQL, Bool.and_eq_true] at hk
          obtain ⟨x, tx⟩ := ih _ (hpart 0 a rfl) a rfl _ hk.1
          exact ⟨_, tells_not v a x tx⟩
      · simp only [Bool.and_eq_true, Bool.or_eq_true, decide_eq_true_eq] at hsh
        obtain ⟨⟨hB, h0⟩, hn⟩ := hsh
        obtain rfl := List.length_eq_zero_iff.1 h0
        unfold predsB at hB
        simp only [decide_eq_true_eq] at hB
        unfold predsN at hn
        by_cases h1 : One op
        · rw [if_pos h1] at hn
          have hl : l.length = 1 := by omega
          match l, hl with
          | [x], _ =>
            rcases h1 with rfl | rfl | rfl | rfl | rfl | rfl | rfl | rfl | rfl
            · exact ⟨_, tells_eq v [x]⟩
            · exact ⟨_, tells_neq v [x]⟩
            · exact ⟨_, tells_lt v x⟩
            · exact ⟨_, tells_lte v x⟩
            · exact ⟨_, tells_gt v x⟩
            · exact ⟨_, tells_gte v x⟩
            · exact ⟨_, tells_startingWith v x hvs⟩
            · exact ⟨_, tells_endingWith v x hvs⟩
            · exact ⟨_, tells_containing v x hvs⟩
        · rw [if_neg h1] at hn
          by_cases h2 : Two op
          · rw [if_pos h2] at hn
            have hl : l.length = 2 := by omega
            match l, hl with
            | [x, y], _ =>
              rcases h2 with rfl | rfl | rfl
              · exact ⟨_, tells_between v x y⟩
              · exact ⟨_, tells_inside v x y⟩
              · exact ⟨_, tells_outside v x y⟩
          · have h3 := (hB.resolve_left h1).resolve_left h2
            rcases h3 with rfl | rfl
            · exact ⟨_, tells_within v l⟩
            · exact ⟨_, tells_without v l⟩
end Go.Proofs.Ytglcnnnjdkjggaa
