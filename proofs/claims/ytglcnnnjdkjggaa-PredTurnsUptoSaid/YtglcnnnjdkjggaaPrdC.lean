
/-
  Predicates of one value that compare: pred.Holds.
-/
import Derived.Test.YtglcnnnjdkjggaaPrdB
set_option linter.unusedSimpArgs false
set_option linter.unusedVariables false
namespace Go.Proofs.Ytglcnnnjdkjggaa
open Go.RowKit

theorem anyV_one (v x : Val) : anyV v [x] = eqV v x := by simp [anyV]

set_option maxRecDepth 8000 in
theorem pin_c (g h : Nat) (op : List UInt8) (A : Option Addr) (cap : Nat) (v x : Val) (k : Int) (b : Bool) (n : Int) (f : Nat) (s : List UInt8) (B : Option Addr) (len c : Nat) (w : World)
    (h1 : w.cell? ⟨g, 1, none⟩ = some (.slice A 1 cap)) (hg : g < w.heap.size) (hb : Box w h k b n f s B len c) (hv : Has w (valV k b n f s B len c) v) (hp : Parts w A [x]) :
    Calls Try.prog 29 #[.pointer (some ⟨g, 0, none⟩), .pointer (some ⟨h, 0, none⟩)] w fun e w' => e = .returned (.bool (eqV v x)) ∧ Below w.heap.size w w' := by
  have cs : Calls Try.prog 24 #[.slice A 1 cap, holdF h] w fun e w' => e = .returned (.bool (eqV v x)) ∧ Below w.heap.size w w' := by
    have := containsIn_c h v k b n f s B len c [x] A cap w hb hv hp (by simp [maxLen])
    rw [anyV_one] at this
    exact this
  clear hb hv hp
  go_enter Try.func29, Try.ntmps29
  go_wp2_with ((with_reducible refine cs.mono ?_); rintro e w2 ⟨rfl, hb2⟩)
  go_ret
  exact ⟨rfl, hb2⟩
/-- what a predicate that compares tells -/
def tellV (op : List UInt8) (v x : Val) : Bool :=
  if op = [101, 113] then eqV v x else if op = [110, 101, 113] then !eqV v x
  else alikeV v x && (if op = [108, 116] then decide (cmpV v x < 0) else if op = [108, 116, 101] then decide (cmpV v x ≤ 0) else if op = [103, 116] then decide (0 < cmpV v x) else decide (0 ≤ cmpV v x))
def Six (op : List UInt8) : Prop := op = [101, 113] ∨ op = [110, 101, 113] ∨ op = [108, 116] ∨ op = [108, 116, 101] ∨ op = [103, 116] ∨ op = [103, 116, 101]
theorem Six.one {op : List UInt8} (h : Six op) : One op := by
  unfold One
  rcases h with h | h | h | h | h | h <;> simp [h]
set_option maxRecDepth 8000 in
set_option maxHeartbeats 2000000 in
theorem holds_eq_c (u : Value) (v x : Val) (A : Option Addr) (cap : Nat) (w : World) (hv : Has w u v) (hp : Parts w A [x]) :
    Calls Try.prog 17 #[predV [101, 113] A 1 cap none 0 0, u] w fun e w' => e = .returned (.bool (tellV [101, 113] v x)) ∧ Below w.heap.size w w' := by
  have ht : tellV [101, 113] v x = eqV v x := by simp [tellV]
  rw [ht]
  clear ht
  obtain ⟨ad, k', b', n', f', s', B', len', c', had, hx, hat⟩ := hp 0 x rfl
  subst had
  rw [show ad.add (0 * 6) = ad from rfl] at hat
  obtain ⟨B, capb, rfl, _⟩ := hv.open
  have cs : ∀ w', Below w.heap.size w w' → w'.cell? ⟨w.heap.size, 1, none⟩ = some (.slice (some ad) 1 cap) → w.heap.size < w'.heap.size → Box w' (w.heap.size + 1) v.k v.b v.n v.f v.s B v.l.length capb → Calls Try.prog 29 #[.pointer (some ⟨w.heap.size, 0, none⟩), .pointer (some ⟨w.heap.size + 1, 0, none⟩)] w' fun e w'' => e = .returned (.bool (eqV v x)) ∧ Below w'.heap.size w' w'' :=
    fun w' hb h1 h2 h3 => pin_c w.heap.size (w.heap.size + 1) [] (some ad) cap v x _ _ _ _ _ _ _ _ w' h1 h2 h3 (hv.keep hb) (hp.keep hb)
  clear hv hx hp
  generalize eqV v x = q at *
  go_enter Try.func17, Try.ntmps17
  go_upto_region 1 with fail
  obtain ⟨w1, hw1⟩ : ∃ w1, w1 = (w.alloc (.cells #[.string (st [101, 113]), .slice (some ad) 1 cap, .slice none 0 0] 25)).alloc (.cells #[.int .i64 v.k, .bool v.b, .int .i64 v.n, .float .f64 v.f, .string (st v.s), .slice B v.l.length capb] 31) := ⟨_, rfl⟩
  have bk : Below w.heap.size w w1 := hw1 ▸ (below_alloc w _).alloc (by simp) _
  have bx : Box w1 (w.heap.size + 1) v.k v.b v.n v.f v.s B v.l.length capb := hw1 ▸ Box.new2 w v.k v.b v.n v.f v.s B v.l.length capb _ _
  have hx7 : w.heap.size + 1 < w1.heap.size := by rw [hw1]; simp
  have z0 : w1.cell? ⟨w.heap.size, 0, none⟩ = some (.string (st [101, 113])) := by rw [hw1]; simp [go_sem]
  have z1 : w1.cell? ⟨w.heap.size, 1, none⟩ = some (.slice (some ad) 1 cap) := by rw [hw1]; simp [go_sem]
  have z6 : w.heap.size < w1.heap.size := by omega
  rw [← hw1]
  clear hw1
  have d1 := cs w1 bk z1 z6 bx
  clear cs
  obtain ⟨x6, x0, x1, x2, x3, x4, x5⟩ := bx
  go_wp2_with ((with_reducible refine d1.mono ?_); rintro e w2 ⟨rfl, hb2⟩)
  go_ret
  exact ⟨rfl, bk.trans (hb2.mono bk.size)⟩
set_option maxRecDepth 8000 in
set_option maxHeartbeats 2000000 in
theorem holds_neq_c (u : Value) (v x : Val) (A : Option Addr) (cap : Nat) (w : World) (hv : Has w u v) (hp : Parts w A [x]) :
    Calls Try.prog 17 #[predV [110, 101, 113] A 1 cap none 0 0, u] w fun e w' => e = .returned (.bool (tellV [110, 101, 113] v x)) ∧ Below w.heap.size w w' := by
  have ht : tellV [110, 101, 113] v x = !eqV v x := by simp [tellV]
  rw [ht]
  clear ht
  obtain ⟨ad, k', b', n', f', s', B', len', c', had, hx, hat⟩ := hp 0 x rfl
  subst had
  rw [show ad.add (0 * 6) = ad from rfl] at hat
  obtain ⟨B, capb, rfl, _⟩ := hv.open
  have cs : ∀ w', Below w.heap.size w w' → w'.cell? ⟨w.heap.size, 1, none⟩ = some (.slice (some ad) 1 cap) → w.heap.size < w'.heap.size → Box w' (w.heap.size + 1) v.k v.b v.n v.f v.s B v.l.length capb → Calls Try.prog 29 #[.pointer (some ⟨w.heap.size, 0, none⟩), .pointer (some ⟨w.heap.size + 1, 0, none⟩)] w' fun e w'' => e = .returned (.bool (eqV v x)) ∧ Below w'.heap.size w' w'' :=
    fun w' hb h1 h2 h3 => pin_c w.heap.size (w.heap.size + 1) [] (some ad) cap v x _ _ _ _ _ _ _ _ w' h1 h2 h3 (hv.keep hb) (hp.keep hb)
  clear hv hx hp
  generalize eqV v x = q at *
  go_enter Try.func17, Try.ntmps17
  go_upto_region 1 with fail
  obtain ⟨w1, hw1⟩ : ∃ w1, w1 = (w.alloc (.cells #[.string (st [110, 101, 113]), .slice (some ad) 1 cap, .slice none 0 0] 25)).alloc (.cells #[.int .i64 v.k, .bool v.b, .int .i64 v.n, .float .f64 v.f, .string (st v.s), .slice B v.l.length capb] 31) := ⟨_, rfl⟩
  have bk : Below w.heap.size w w1 := hw1 ▸ (below_alloc w _).alloc (by simp) _
  have bx : Box w1 (w.heap.size + 1) v.k v.b v.n v.f v.s B v.l.length capb := hw1 ▸ Box.new2 w v.k v.b v.n v.f v.s B v.l.length capb _ _
  have hx7 : w.heap.size + 1 < w1.heap.size := by rw [hw1]; simp
  have z0 : w1.cell? ⟨w.heap.size, 0, none⟩ = some (.string (st [110, 101, 113])) := by rw [hw1]; simp [go_sem]
  have z1 : w1.cell? ⟨w.heap.size, 1, none⟩ = some (.slice (some ad) 1 cap) := by rw [hw1]; simp [go_sem]
  have z6 : w.heap.size < w1.heap.size := by omega
  rw [← hw1]
  clear hw1
  have d1 := cs w1 bk z1 z6 bx
  clear cs
  obtain ⟨x6, x0, x1, x2, x3, x4, x5⟩ := bx
  go_wp2_with ((with_reducible refine d1.mono ?_); rintro e w2 ⟨rfl, hb2⟩)
  go_ret
  exact ⟨rfl, bk.trans (hb2.mono bk.size)⟩
set_option maxRecDepth 8000 in
set_option maxHeartbeats 2000000 in
theorem holds_lt_c (u : Value) (v x : Val) (A : Option Addr) (cap : Nat) (w : World) (hv : Has w u v) (hp : Parts w A [x]) :
    Calls Try.prog 17 #[predV [108, 116] A 1 cap none 0 0, u] w fun e w' => e = .returned (.bool (tellV [108, 116] v x)) ∧ Below w.heap.size w w' := by
  have ht : tellV [108, 116] v x = (alikeV v x && decide (cmpV v x < 0)) := by simp [tellV]
  rw [ht]
  clear ht
  obtain ⟨ad, k', b', n', f', s', B', len', c', had, hx, hat⟩ := hp 0 x rfl
  subst had
  rw [show ad.add (0 * 6) = ad from rfl] at hat
  obtain ⟨B, capb, rfl, _⟩ := hv.open
  have co : ∀ w', Below w.heap.size w w' → Calls Try.prog 32 #[valV v.k v.b v.n v.f v.s B v.l.length capb, valV k' b' n' f' s' B' len' c', .func (.func 33) #[] #[]] w' fun e w'' => e = .returned (.bool (alikeV v x && decide (cmpV v x < 0))) ∧ Below w'.heap.size w' w'' :=
    fun w' hb => order_below_c _ v _ x w' (hv.keep hb) (hx.keep hb)
  clear hv hx hp
  generalize (alikeV v x && decide (cmpV v x < 0)) = q at *
  go_enter Try.func17, Try.ntmps17
  go_upto_region 1 with fail
  obtain ⟨w1, hw1⟩ : ∃ w1, w1 = (w.alloc (.cells #[.string (st [108, 116]), .slice (some ad) 1 cap, .slice none 0 0] 25)).alloc (.cells #[.int .i64 v.k, .bool v.b, .int .i64 v.n, .float .f64 v.f, .string (st v.s), .slice B v.l.length capb] 31) := ⟨_, rfl⟩
  have bk : Below w.heap.size w w1 := hw1 ▸ (below_alloc w _).alloc (by simp) _
  have bx : Box w1 (w.heap.size + 1) v.k v.b v.n v.f v.s B v.l.length capb := hw1 ▸ Box.new2 w v.k v.b v.n v.f v.s B v.l.length capb _ _
  have hx7 : w.heap.size + 1 < w1.heap.size := by rw [hw1]; simp
  have z0 : w1.cell? ⟨w.heap.size, 0, none⟩ = some (.string (st [108, 116])) := by rw [hw1]; simp [go_sem]
  have z1 : w1.cell? ⟨w.heap.size, 1, none⟩ = some (.slice (some ad) 1 cap) := by rw [hw1]; simp [go_sem]
  have z6 : w.heap.size < w1.heap.size := by omega
  rw [← hw1]
  clear hw1
  have d1 := fun p : In w1 => co p.w (p.back bk)
  clear co
  obtain ⟨x6, x0, x1, x2, x3, x4, x5⟩ := bx
  obtain ⟨q6, q0, q1, q2, q3, q4, q5⟩ := hat.keep bk
  clear hat
  go_upto_region 16 with fail
  (refine wp_region_flow [] (by kernel_rfl) (by kernel_rfl) ?_; (repeat (((with_reducible refine wpFlow_steps ?_); intro K hK; go_simp; first | (with_reducible refine hK _ ?_; clear hK K) | (apply Exists.intro; (with_reducible refine ⟨fun _ => ⟨?_, _, rfl⟩, hK _ ?_⟩); (· exact rfl); clear hK K) | (apply Exists.intro; (with_reducible refine ⟨fun _ => ⟨_, rfl⟩, hK _ ?_⟩); clear hK K) | (apply Exists.intro; (with_reducible refine ⟨fun _ => ?_, hK _ ?_⟩); (· (with_reducible (exact d1 _))); clear hK K)))); (refine wpFlow_nil ?_; rintro w1 ⟨q0, hq0⟩; have hb := In.h q0; rw [← hq0] at hb; clear hq0 q0; (first | ((with_reducible obtain ⟨p, hw''⟩ := In.of2 p hb); subst hw'') | (obtain ⟨p, hw''⟩ := In.of hb; subst hw'')); go_simp; intros))
  go_wp2_with fail
  go_ret
  exact ⟨rfl, p.back bk⟩
set_option maxRecDepth 8000 in
set_option maxHeartbeats 2000000 in
theorem holds_lte_c (u : Value) (v x : Val) (A : Option Addr) (cap : Nat) (w : World) (hv : Has w u v) (hp : Parts w A [x]) :
    Calls Try.prog 17 #[predV [108, 116, 101] A 1 cap none 0 0, u] w fun e w' => e = .returned (.bool (tellV [108, 116, 101] v x)) ∧ Below w.heap.size w w' := by
  have ht : tellV [108, 116, 101] v x = (alikeV v x && decide (cmpV v x ≤ 0)) := by simp [tellV]
  rw [ht]
  clear ht
  obtain ⟨ad, k', b', n', f', s', B', len', c', had, hx, hat⟩ := hp 0 x rfl
  subst had
  rw [show ad.add (0 * 6) = ad from rfl] at hat
  obtain ⟨B, capb, rfl, _⟩ := hv.open
  have co : ∀ w', Below w.heap.size w w' → Calls Try.prog 32 #[valV v.k v.b v.n v.f v.s B v.l.length capb, valV k' b' n' f' s' B' len' c', .func (.func 34) #[] #[]] w' fun e w'' => e = .returned (.bool (alikeV v x && decide (cmpV v x ≤ 0))) ∧ Below w'.heap.size w' w'' :=
    fun w' hb => order_notAbove_c _ v _ x w' (hv.keep hb) (hx.keep hb)
  clear hv hx hp
  generalize (alikeV v x && decide (cmpV v x ≤ 0)) = q at *
  go_enter Try.func17, Try.ntmps17
  go_upto_region 1 with fail
  obtain ⟨w1, hw1⟩ : ∃ w1, w1 = (w.alloc (.cells #[.string (st [108, 116, 101]), .slice (some ad) 1 cap, .slice none 0 0] 25)).alloc (.cells #[.int .i64 v.k, .bool v.b, .int .i64 v.n, .float .f64 v.f, .string (st v.s), .slice B v.l.length capb] 31) := ⟨_, rfl⟩
  have bk : Below w.heap.size w w1 := hw1 ▸ (below_alloc w _).alloc (by simp) _
  have bx : Box w1 (w.heap.size + 1) v.k v.b v.n v.f v.s B v.l.length capb := hw1 ▸ Box.new2 w v.k v.b v.n v.f v.s B v.l.length capb _ _
  have hx7 : w.heap.size + 1 < w1.heap.size := by rw [hw1]; simp
  have z0 : w1.cell? ⟨w.heap.size, 0, none⟩ = some (.string (st [108, 116, 101])) := by rw [hw1]; simp [go_sem]
  have z1 : w1.cell? ⟨w.heap.size, 1, none⟩ = some (.slice (some ad) 1 cap) := by rw [hw1]; simp [go_sem]
  have z6 : w.heap.size < w1.heap.size := by omega
  rw [← hw1]
  clear hw1
  have d1 := fun p : In w1 => co p.w (p.back bk)
  clear co
  obtain ⟨x6, x0, x1, x2, x3, x4, x5⟩ := bx
  obtain ⟨q6, q0, q1, q2, q3, q4, q5⟩ := hat.keep bk
  clear hat
  go_upto_region 18 with fail
  (refine wp_region_flow [] (by kernel_rfl) (by kernel_rfl) ?_; (repeat (((with_reducible refine wpFlow_steps ?_); intro K hK; go_simp; first | (with_reducible refine hK _ ?_; clear hK K) | (apply Exists.intro; (with_reducible refine ⟨fun _ => ⟨?_, _, rfl⟩, hK _ ?_⟩); (· exact rfl); clear hK K) | (apply Exists.intro; (with_reducible refine ⟨fun _ => ⟨_, rfl⟩, hK _ ?_⟩); clear hK K) | (apply Exists.intro; (with_reducible refine ⟨fun _ => ?_, hK _ ?_⟩); (· (with_reducible (exact d1 _))); clear hK K)))); (refine wpFlow_nil ?_; rintro w1 ⟨q0, hq0⟩; have hb := In.h q0; rw [← hq0] at hb; clear hq0 q0; (first | ((with_reducible obtain ⟨p, hw''⟩ := In.of2 p hb); subst hw'') | (obtain ⟨p, hw''⟩ := In.of hb; subst hw'')); go_simp; intros))
  go_wp2_with fail
  go_ret
  exact ⟨rfl, p.back bk⟩
set_option maxRecDepth 8000 in
set_option maxHeartbeats 2000000 in
theorem holds_gt_c (u : Value) (v x : Val) (A : Option Addr) (cap : Nat) (w : World) (hv : Has w u v) (hp : Parts w A [x]) :
    Calls Try.prog 17 #[predV [103, 116] A 1 cap none 0 0, u] w fun e w' => e = .returned (.bool (tellV [103, 116] v x)) ∧ Below w.heap.size w w' := by
  have ht : tellV [103, 116] v x = (alikeV v x && decide (0 < cmpV v x)) := by simp [tellV]
  rw [ht]
  clear ht
  obtain ⟨ad, k', b', n', f', s', B', len', c', had, hx, hat⟩ := hp 0 x rfl
  subst had
  rw [show ad.add (0 * 6) = ad from rfl] at hat
  obtain ⟨B, capb, rfl, _⟩ := hv.open
  have co : ∀ w', Below w.heap.size w w' → Calls Try.prog 32 #[valV v.k v.b v.n v.f v.s B v.l.length capb, valV k' b' n' f' s' B' len' c', .func (.func 35) #[] #[]] w' fun e w'' => e = .returned (.bool (alikeV v x && decide (0 < cmpV v x))) ∧ Below w'.heap.size w' w'' :=
    fun w' hb => order_above_c _ v _ x w' (hv.keep hb) (hx.keep hb)
  clear hv hx hp
  generalize (alikeV v x && decide (0 < cmpV v x)) = q at *
  go_enter Try.func17, Try.ntmps17
  go_upto_region 1 with fail
  obtain ⟨w1, hw1⟩ : ∃ w1, w1 = (w.alloc (.cells #[.string (st [103, 116]), .slice (some ad) 1 cap, .slice none 0 0] 25)).alloc (.cells #[.int .i64 v.k, .bool v.b, .int .i64 v.n, .float .f64 v.f, .string (st v.s), .slice B v.l.length capb] 31) := ⟨_, rfl⟩
  have bk : Below w.heap.size w w1 := hw1 ▸ (below_alloc w _).alloc (by simp) _
  have bx : Box w1 (w.heap.size + 1) v.k v.b v.n v.f v.s B v.l.length capb := hw1 ▸ Box.new2 w v.k v.b v.n v.f v.s B v.l.length capb _ _
  have hx7 : w.heap.size + 1 < w1.heap.size := by rw [hw1]; simp
  have z0 : w1.cell? ⟨w.heap.size, 0, none⟩ = some (.string (st [103, 116])) := by rw [hw1]; simp [go_sem]
  have z1 : w1.cell? ⟨w.heap.size, 1, none⟩ = some (.slice (some ad) 1 cap) := by rw [hw1]; simp [go_sem]
  have z6 : w.heap.size < w1.heap.size := by omega
  rw [← hw1]
  clear hw1
  have d1 := fun p : In w1 => co p.w (p.back bk)
  clear co
  obtain ⟨x6, x0, x1, x2, x3, x4, x5⟩ := bx
  obtain ⟨q6, q0, q1, q2, q3, q4, q5⟩ := hat.keep bk
  clear hat
  go_upto_region 20 with fail
  (refine wp_region_flow [] (by kernel_rfl) (by kernel_rfl) ?_; (repeat (((with_reducible refine wpFlow_steps ?_); intro K hK; go_simp; first | (with_reducible refine hK _ ?_; clear hK K) | (apply Exists.intro; (with_reducible refine ⟨fun _ => ⟨?_, _, rfl⟩, hK _ ?_⟩); (· exact rfl); clear hK K) | (apply Exists.intro; (with_reducible refine ⟨fun _ => ⟨_, rfl⟩, hK _ ?_⟩); clear hK K) | (apply Exists.intro; (with_reducible refine ⟨fun _ => ?_, hK _ ?_⟩); (· (with_reducible (exact d1 _))); clear hK K)))); (refine wpFlow_nil ?_; rintro w1 ⟨q0, hq0⟩; have hb := In.h q0; rw [← hq0] at hb; clear hq0 q0; (first | ((with_reducible obtain ⟨p, hw''⟩ := In.of2 p hb); subst hw'') | (obtain ⟨p, hw''⟩ := In.of hb; subst hw'')); go_simp; intros))
  go_wp2_with fail
  go_ret
  exact ⟨rfl, p.back bk⟩
set_option maxRecDepth 8000 in
set_option maxHeartbeats 2000000 in
theorem holds_gte_c (u : Value) (v x : Val) (A : Option Addr) (cap : Nat) (w : World) (hv : Has w u v) (hp : Parts w A [x]) :
    Calls Try.prog 17 #[predV [103, 116, 101] A 1 cap none 0 0, u] w fun e w' => e = .returned (.bool (tellV [103, 116, 101] v x)) ∧ Below w.heap.size w w' := by
  have ht : tellV [103, 116, 101] v x = (alikeV v x && decide (0 ≤ cmpV v x)) := by simp [tellV]
  rw [ht]
  clear ht
  obtain ⟨ad, k', b', n', f', s', B', len', c', had, hx, hat⟩ := hp 0 x rfl
  subst had
  rw [show ad.add (0 * 6) = ad from rfl] at hat
  obtain ⟨B, capb, rfl, _⟩ := hv.open
  have co : ∀ w', Below w.heap.size w w' → Calls Try.prog 32 #[valV v.k v.b v.n v.f v.s B v.l.length capb, valV k' b' n' f' s' B' len' c', .func (.func 36) #[] #[]] w' fun e w'' => e = .returned (.bool (alikeV v x && decide (0 ≤ cmpV v x))) ∧ Below w'.heap.size w' w'' :=
    fun w' hb => order_notBelow_c _ v _ x w' (hv.keep hb) (hx.keep hb)
  clear hv hx hp
  generalize (alikeV v x && decide (0 ≤ cmpV v x)) = q at *
  go_enter Try.func17, Try.ntmps17
  go_upto_region 1 with fail
  obtain ⟨w1, hw1⟩ : ∃ w1, w1 = (w.alloc (.cells #[.string (st [103, 116, 101]), .slice (some ad) 1 cap, .slice none 0 0] 25)).alloc (.cells #[.int .i64 v.k, .bool v.b, .int .i64 v.n, .float .f64 v.f, .string (st v.s), .slice B v.l.length capb] 31) := ⟨_, rfl⟩
  have bk : Below w.heap.size w w1 := hw1 ▸ (below_alloc w _).alloc (by simp) _
  have bx : Box w1 (w.heap.size + 1) v.k v.b v.n v.f v.s B v.l.length capb := hw1 ▸ Box.new2 w v.k v.b v.n v.f v.s B v.l.length capb _ _
  have hx7 : w.heap.size + 1 < w1.heap.size := by rw [hw1]; simp
  have z0 : w1.cell? ⟨w.heap.size, 0, none⟩ = some (.string (st [103, 116, 101])) := by rw [hw1]; simp [go_sem]
  have z1 : w1.cell? ⟨w.heap.size, 1, none⟩ = some (.slice (some ad) 1 cap) := by rw [hw1]; simp [go_sem]
  have z6 : w.heap.size < w1.heap.size := by omega
  rw [← hw1]
  clear hw1
  have d1 := fun p : In w1 => co p.w (p.back bk)
  clear co
  obtain ⟨x6, x0, x1, x2, x3, x4, x5⟩ := bx
  obtain ⟨q6, q0, q1, q2, q3, q4, q5⟩ := hat.keep bk
  clear hat
  go_upto_region 22 with fail
  (refine wp_region_flow [] (by kernel_rfl) (by kernel_rfl) ?_; (repeat (((with_reducible refine wpFlow_steps ?_); intro K hK; go_simp; first | (with_reducible refine hK _ ?_; clear hK K) | (apply Exists.intro; (with_reducible refine ⟨fun _ => ⟨?_, _, rfl⟩, hK _ ?_⟩); (· exact rfl); clear hK K) | (apply Exists.intro; (with_reducible refine ⟨fun _ => ⟨_, rfl⟩, hK _ ?_⟩); clear hK K) | (apply Exists.intro; (with_reducible refine ⟨fun _ => ?_, hK _ ?_⟩); (· (with_reducible (exact d1 _))); clear hK K)))); (refine wpFlow_nil ?_; rintro w1 ⟨q0, hq0⟩; have hb := In.h q0; rw [← hq0] at hb; clear hq0 q0; (first | ((with_reducible obtain ⟨p, hw''⟩ := In.of2 p hb); subst hw'') | (obtain ⟨p, hw''⟩ := In.of hb; subst hw'')); go_simp; intros))
  go_wp2_with fail
  go_ret
  exact ⟨rfl, p.back bk⟩
theorem holds1_c (op : List UInt8) (h : Six op) (u : Value) (v x : Val) (A : Option Addr) (cap : Nat) (w : World) (hv : Has w u v) (hp : Parts w A [x]) :
    Calls Try.prog 17 #[predV op A 1 cap none 0 0, u] w fun e w' => e = .returned (.bool (tellV op v x)) ∧ Below w.heap.size w w' := by
  rcases h with rfl | rfl | rfl | rfl | rfl | rfl
  · exact holds_eq_c u v x A cap w hv hp
  · exact holds_neq_c u v x A cap w hv hp
  · exact holds_lt_c u v x A cap w hv hp
  · exact holds_lte_c u v x A cap w hv hp
  · exact holds_gt_c u v x A cap w hv hp
  · exact holds_gte_c u v x A cap w hv hp
set_option maxRecDepth 8000 in
set_option maxHeartbeats 1000000 in
theorem pCheck_c (op : List UInt8) (h : One op) (x : Val) (A : Option Addr) (cap : Nat) (w : World) (hp : Parts w A [x]) :
    Calls Try.prog 9 #[predV op A 1 cap none 0 0] w fun e w' => e = .returned (.bool (CheckV x == 0)) ∧ Below w.heap.size w w' := by
  have cs : ∀ w', Below w.heap.size w w' → Calls Try.prog 15 #[predV op A 1 cap none 0 0, .int .i64 1] w' fun e w'' => e = .returned (.bool (CheckV x == 0)) ∧ Below w'.heap.size w' w'' := fun w' hb => pcheck_c op h x A cap w' (hp.keep hb)
  clear hp h
  generalize (CheckV x == 0) = r at *
  go_enter Try.func9, Try.ntmps9
  go_wp2_with ((with_reducible refine (cs _ (below_alloc _ _)).mono ?_); rintro e w2 ⟨rfl, hb2⟩)
  go_ret
  exact ⟨rfl, (below_alloc _ _).trans (hb2.mono (below_alloc _ _).size)⟩
set_option maxRecDepth 8000 in
set_option maxHeartbeats 1000000 in
theorem pHolds_c (op : List UInt8) (h : Six op) (u : Value) (v x : Val) (A : Option Addr) (cap : Nat) (w : World) (hv : Has w u v) (hp : Parts w A [x]) (hx : CheckV x = 0) :
    Calls Try.prog 11 #[predV op A 1 cap none 0 0, u] w fun e w' => e = .returned (.bool (tellV op v x)) ∧ Below w.heap.size w w' := by
  have c1 : ∀ w', Below w.heap.size w w' → Calls Try.prog 9 #[predV op A 1 cap none 0 0] w' fun e w'' => e = .returned (.bool true) ∧ Below w'.heap.size w' w'' := fun w' hb => by
    have := pCheck_c op h.one x A cap w' (hp.keep hb)
    rw [hx] at this
    exact this
  have c2 : ∀ w', Below w.heap.size w w' → Calls Try.prog 17 #[predV op A 1 cap none 0 0, u] w' fun e w'' => e = .returned (.bool (tellV op v x)) ∧ Below w'.heap.size w' w'' := fun w' hb => holds1_c op h u v x A cap w' (hv.keep hb) (hp.keep hb)
  obtain ⟨B, capb, rfl, _⟩ := hv.open
  clear hv hp h hx
  generalize tellV op v x = q at *
  go_enter Try.func11, Try.ntmps11
  go_upto_region 1 with fail
  obtain ⟨w1, hw1⟩ : ∃ w1, w1 = (w.alloc (.cells #[.string (st op), .slice A 1 cap, .slice none 0 0] 25)).alloc (.cells #[.int .i64 v.k, .bool v.b, .int .i64 v.n, .float .f64 v.f, .string (st v.s), .slice B v.l.length capb] 31) := ⟨_, rfl⟩
  have bk : Below w.heap.size w w1 := hw1 ▸ (below_alloc w _).alloc (by simp) _
  obtain ⟨x6, x0, x1, x2, x3, x4, x5⟩ : Box w1 (w.heap.size + 1) v.k v.b v.n v.f v.s B v.l.length capb := hw1 ▸ Box.new2 w v.k v.b v.n v.f v.s B v.l.length capb _ _
  have hx7 : w.heap.size + 1 < w1.heap.size := by rw [hw1]; simp
  have z0 : w1.cell? ⟨w.heap.size, 0, none⟩ = some (.string (st op)) := by rw [hw1]; simp [go_sem]
  have z1 : w1.cell? ⟨w.heap.size, 1, none⟩ = some (.slice A 1 cap) := by rw [hw1]; simp [go_sem]
  have z2 : w1.cell? ⟨w.heap.size, 2, none⟩ = some (.slice none 0 0) := by rw [hw1]; simp [go_sem]
  have z6 : w.heap.size < w1.heap.size := by omega
  rw [← hw1]
  clear hw1
  have d1 := fun p : In w1 => c1 p.w (p.back bk)
  have d2 := fun p : In w1 => c2 p.w (p.back bk)
  have d0 := c1 w1 bk
  clear c1 c2
  go_wp2_with (first | ((with_reducible refine d0.mono ?_); rintro e w3 ⟨rfl, hb3⟩; (first | ((with_reducible obtain ⟨p, hw''⟩ := In.of2 p hb3); subst hw'') | (obtain ⟨p, hw''⟩ := In.of hb3; subst hw''))) | ((with_reducible refine (d1 _).mono ?_); rintro e w3 ⟨rfl, hb3⟩; (first | ((with_reducible obtain ⟨p, hw''⟩ := In.of2 p hb3); subst hw'') | (obtain ⟨p, hw''⟩ := In.of hb3; subst hw''))) | ((with_reducible refine (d2 _).mono ?_); rintro e w4 ⟨rfl, hb4⟩; (first | ((with_reducible obtain ⟨p, hw''⟩ := In.of2 p hb4); subst hw'') | (obtain ⟨p, hw''⟩ := In.of hb4; subst hw''))))
  go_ret
  exact ⟨rfl, p.back bk⟩
end Go.Proofs.Ytglcnnnjdkjggaa
