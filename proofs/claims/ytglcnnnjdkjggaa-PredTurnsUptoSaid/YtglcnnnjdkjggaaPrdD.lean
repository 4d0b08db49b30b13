
/-
  Predicates of one value that compare: the reference's Holds.
-/
import Derived.Test.YtglcnnnjdkjggaaPrdC
set_option linter.unusedSimpArgs false
set_option linter.unusedVariables false
namespace Go.Proofs.Ytglcnnnjdkjggaa
open Go.RowKit

set_option maxRecDepth 8000 in
set_option maxHeartbeats 4000000 in
theorem rin_c (u : Value) (v : Val) (l : List Val) (A : Option Addr) (cap : Nat) (w : World) (hv : Has w u v) (hp : Parts w A l) (hl : l.length ≤ maxLen) :
    Calls Try.prog 18 #[u, .slice A l.length cap] w fun e w' => e = .returned (.bool (anyV v l)) ∧ Below w.heap.size w w' := by
  unfold maxLen at hl
  have cv : ∀ (x : Val) (ux : Value) (w' : World), Below w.heap.size w w' → Has w' ux x → Calls Try.prog 38 #[u, ux] w' (IntEnds (cmpV v x) w') := fun x ux w' h hx => rcmpv_c v x u ux w' (hv.keep h) hx
  unfold IntEnds at cv
  obtain ⟨B, capb, rfl, _⟩ := hv.open
  clear hv
  go_enter Try.func18, Try.ntmps18
  go_upto_region 1 with fail
  obtain ⟨w1, hw1⟩ : ∃ w1, w1 = w.alloc (.cells #[.int .i64 v.k, .bool v.b, .int .i64 v.n, .float .f64 v.f, .string (st v.s), .slice B v.l.length capb] 31) := ⟨_, rfl⟩
  have bk : Below w.heap.size w w1 := hw1 ▸ below_alloc w _
  have bx : Box w1 w.heap.size v.k v.b v.n v.f v.s B v.l.length capb := hw1 ▸ Box.new w v.k v.b v.n v.f v.s B v.l.length capb _
  rw [← hw1]
  clear hw1
  go_wp2_with fail
  go_loopw [5] (fun a5 wr => ∃ i : Nat, a5 = .int .i64 i ∧ i ≤ l.length ∧ Hid (anyV v (l.take i) = false) ∧ Below w1.heap.size w1 wr) (fun a _ => l.length - (intOf a).toNat)
  case atStart => exact ⟨0, rfl, Nat.zero_le _, rfl, Below.refl _ _⟩
  case round =>
    obtain ⟨i, rfl, hi, hno, hbr⟩ := hrel
    have bkr := bk.trans (hbr.mono bk.size)
    by_cases hil : i < l.length
    · have hil' : (i : Int) < l.length := by omega
      obtain ⟨ad, k', b', n', f', s', B', len', c', rfl, hx, hat⟩ := hp i l[i] (by simp)
      obtain ⟨q6, q0, q1, q2, q3, q4, q5⟩ := hat.keep bkr
      obtain ⟨x6, x0, x1, x2, x3, x4, x5⟩ := bx.keep hbr
      have hxr := hx.keep bkr
      have cs : ∀ p : In wr, Calls Try.prog 38 #[valV v.k v.b v.n v.f v.s B v.l.length capb, valV k' b' n' f' s' B' len' c'] p.w fun e w' => e = .returned (.int .i64 (cmpV v l[i])) ∧ Below p.w.heap.size p.w w' :=
        fun p => cv l[i] _ p.w (p.back bkr) (hxr.keep p.h)
      have hst := Lib.hid (anyV_snoc (v := v) (l := l) (i := i) (x := l[i]) (by simp))
      have wi : IntKind.i64.wrap ((i : Int) + 1) = (i : Int) + 1 := by rw [wrap_i64]; omega
      have hle : ∀ j, anyV v (l.take j) = true → anyV v l = true := fun j h => by
        unfold anyV at h ⊢
        rw [List.any_eq_true] at h ⊢
        obtain ⟨y, h1, h2⟩ := h
        exact ⟨y, List.mem_of_mem_take h1, h2⟩
      have heq : eqV v l[i] = (cmpV v l[i] == 0) := rfl
      generalize l[i] = x at *
      clear hat hx hp hxr cv bx
      generalize eqV v x = e0 at *
      generalize cmpV v x = c0 at *
      by_cases hc : c0 = 0
      · have hcb : (c0 == 0) = true := by simpa using hc
        rw [hcb] at heq
        subst heq
        have hyes := Lib.hid (hle (i + 1) (by rw [hst.out]; simp))
        clear hle
        go_wp2_with fail
        (refine wp_region_flow [] (by kernel_rfl) (by kernel_rfl) ?_; (repeat (((with_reducible refine wpFlow_steps ?_); intro K hK; go_simp; first | (with_reducible refine hK _ ?_; clear hK K) | (apply Exists.intro; (with_reducible refine ⟨fun _ => ⟨?_, _, rfl⟩, hK _ ?_⟩); (· exact rfl); clear hK K) | (apply Exists.intro; (with_reducible refine ⟨fun _ => ⟨_, rfl⟩, hK _ ?_⟩); clear hK K) | (apply Exists.intro; (with_reducible refine ⟨fun _ => ?_, hK _ ?_⟩); (· (with_reducible (exact cs _))); clear hK K)))); (refine wpFlow_nil ?_; rintro w1 ⟨q0, hq0⟩; have hb := In.h q0; rw [← hq0] at hb; clear hq0 q0; (first | ((with_reducible obtain ⟨p, hw''⟩ := In.of2 p hb); subst hw'') | (obtain ⟨p, hw''⟩ := In.of hb; subst hw'')); go_simp; intros))
        go_wp2_with fail
        go_ret
        exact ⟨ret_bool (by rw [hyes.out]), p.back bkr⟩
      · have hcb : (c0 == 0) = false := by simpa using hc
        rw [hcb] at heq
        subst heq
        clear hle
        go_wp2_with fail
        (refine wp_region_flow [] (by kernel_rfl) (by kernel_rfl) ?_; (repeat (((with_reducible refine wpFlow_steps ?_); intro K hK; go_simp; first | (with_reducible refine hK _ ?_; clear hK K) | (apply Exists.intro; (with_reducible refine ⟨fun _ => ⟨?_, _, rfl⟩, hK _ ?_⟩); (· exact rfl); clear hK K) | (apply Exists.intro; (with_reducible refine ⟨fun _ => ⟨_, rfl⟩, hK _ ?_⟩); clear hK K) | (apply Exists.intro; (with_reducible refine ⟨fun _ => ?_, hK _ ?_⟩); (· (with_reducible (exact cs _))); clear hK K)))); (refine wpFlow_nil ?_; rintro w1 ⟨q0, hq0⟩; have hb := In.h q0; rw [← hq0] at hb; clear hq0 q0; (first | ((with_reducible obtain ⟨p, hw''⟩ := In.of2 p hb); subst hw'') | (obtain ⟨p, hw''⟩ := In.of hb; subst hw'')); go_simp; intros))
        go_wp2_with fail
        refine ⟨⟨i + 1, rfl, hil, ?_, p.back hbr⟩, by simp [intOf]; omega⟩
        show _ = _
        rw [hst.out, hno.out]; rfl
    · have hil' : ¬ (i : Int) < l.length := by omega
      have hf := hno.out
      rw [List.take_of_length_le (by omega)] at hf
      have hF := Lib.hid hf
      clear hf hp hno cv bx
      go_wp2_with fail
      go_ret
      exact ⟨ret_bool (by rw [hF.out]), bkr⟩
set_option maxRecDepth 8000 in
set_option maxHeartbeats 4000000 in
theorem rcmp16_c (u : Value) (a : Val) (v : Value) (b : Val) (w : World) (hu : Has w u a) (hv : Has w v b) :
    Calls Try.prog 20 #[u, v] w fun e w' => e = .returned (.tuple #[.int .i64 (cmpV a b), .bool (alikeV a b)]) ∧ Below w.heap.size w w' := by
  have c1 : ∀ w', Below w.heap.size w w' → Calls Try.prog 38 #[u, v] w' (IntEnds (cmpV a b) w') := fun w' h => rcmpv_c a b u v w' (hu.keep h) (hv.keep h)
  unfold IntEnds at c1
  obtain ⟨A, capa, rfl, _⟩ := hu.open
  obtain ⟨B, capb, rfl, _⟩ := hv.open
  have hal : alikeV a b = (rcls a.k == rcls b.k) := rfl
  clear hu hv
  generalize cmpV a b = c0 at *
  generalize alikeV a b = q0 at *
  obtain ⟨ka, ba, na, fa, sa, la⟩ := a
  obtain ⟨kb, bb, nb, fb, sb, lb⟩ := b
  dsimp only [Val.k, Val.b, Val.n, Val.f, Val.s, Val.l] at *
  go_enter Try.func20, Try.ntmps20
  go_upto_region 1 with fail
  obtain ⟨w1, hw1⟩ : ∃ w1, w1 = (w.alloc (.cells #[.int .i64 ka, .bool ba, .int .i64 na, .float .f64 fa, .string (st sa), .slice A la.length capa] 31)).alloc (.cells #[.int .i64 kb, .bool bb, .int .i64 nb, .float .f64 fb, .string (st sb), .slice B lb.length capb] 31) := ⟨_, rfl⟩
  have bk : Below w.heap.size w w1 := hw1 ▸ (below_alloc w _).alloc (by simp) _
  obtain ⟨x6, x0, x1, x2, x3, x4, x5⟩ : Box w1 w.heap.size ka ba na fa sa A la.length capa := hw1 ▸ (Box.new w ka ba na fa sa A la.length capa _).keep (below_alloc _ _)
  obtain ⟨y6, y0, y1, y2, y3, y4, y5⟩ : Box w1 (w.heap.size + 1) kb bb nb fb sb B lb.length capb := hw1 ▸ Box.new2 w kb bb nb fb sb B lb.length capb _ _
  rw [← hw1]
  clear hw1
  have d1 := fun p : In w1 => c1 p.w (p.back bk)
  clear c1
  have hal := Lib.hid hal
  by_cases ha : ka = 3
  · subst ha
    by_cases hb : kb = 3
    · subst hb
      have hq := Lib.hid (show q0 = true by rw [hal.out]; rfl)
      clear hal
      (refine wp_region_flow [] (by kernel_rfl) (by kernel_rfl) ?_; (repeat (((with_reducible refine wpFlow_steps ?_); intro K hK; go_simp; first | (with_reducible refine hK _ ?_; clear hK K) | (apply Exists.intro; (with_reducible refine ⟨fun _ => ⟨?_, _, rfl⟩, hK _ ?_⟩); (· exact rfl); clear hK K) | (apply Exists.intro; (with_reducible refine ⟨fun _ => ⟨_, rfl⟩, hK _ ?_⟩); clear hK K) | (apply Exists.intro; (with_reducible refine ⟨fun _ => ?_, hK _ ?_⟩); (· (with_reducible (fail))); clear hK K)))); (refine wpFlow_nil ?_; rintro w1 ⟨q0, hq0⟩; have hb := In.h q0; rw [← hq0] at hb; clear hq0 q0; (first | ((with_reducible obtain ⟨p, hw''⟩ := In.of2 p hb); subst hw'') | (obtain ⟨p, hw''⟩ := In.of hb; subst hw'')); go_simp; intros))
      go_upto_region 6 with fail
      go_wp2_with ((with_reducible refine (d1 _).mono ?_); rintro e w3 ⟨rfl, hb3⟩; (first | ((with_reducible obtain ⟨p, hw''⟩ := In.of2 p hb3); subst hw'') | (obtain ⟨p, hw''⟩ := In.of hb3; subst hw'')))
      refine bodyPost_ret (v := .tuple #[.int .i64 c0, .bool q0]) (by simp only [results, Try.results20, hq.out]; go_simp) rfl ⟨rfl, ?_⟩
      exact p.back bk
    · have hb' : (kb == 3) = false := by simpa using hb
      have hq := Lib.hid (show q0 = ((2 : Int) == kb) by rw [hal.out]; unfold rcls; rw [if_pos rfl, if_neg hb])
      clear hal
      (refine wp_region_flow [] (by kernel_rfl) (by kernel_rfl) ?_; (repeat (((with_reducible refine wpFlow_steps ?_); intro K hK; go_simp; first | (with_reducible refine hK _ ?_; clear hK K) | (apply Exists.intro; (with_reducible refine ⟨fun _ => ⟨?_, _, rfl⟩, hK _ ?_⟩); (· exact rfl); clear hK K) | (apply Exists.intro; (with_reducible refine ⟨fun _ => ⟨_, rfl⟩, hK _ ?_⟩); clear hK K) | (apply Exists.intro; (with_reducible refine ⟨fun _ => ?_, hK _ ?_⟩); (· (with_reducible (fail))); clear hK K)))); (refine wpFlow_nil ?_; rintro w1 ⟨q0, hq0⟩; have hb := In.h q0; rw [← hq0] at hb; clear hq0 q0; (first | ((with_reducible obtain ⟨p, hw''⟩ := In.of2 p hb); subst hw'') | (obtain ⟨p, hw''⟩ := In.of hb; subst hw'')); go_simp; intros))
      go_upto_region 6 with fail
      go_wp2_with ((with_reducible refine (d1 _).mono ?_); rintro e w3 ⟨rfl, hb3⟩; (first | ((with_reducible obtain ⟨p, hw''⟩ := In.of2 p hb3); subst hw'') | (obtain ⟨p, hw''⟩ := In.of hb3; subst hw'')))
      refine bodyPost_ret (v := .tuple #[.int .i64 c0, .bool q0]) (by simp only [results, Try.results20, hq.out]; go_simp) rfl ⟨rfl, ?_⟩
      exact p.back bk
  · have ha' : (ka == 3) = false := by simpa using ha
    by_cases hb : kb = 3
    · subst hb
      have hq := Lib.hid (show q0 = (ka == (2 : Int)) by rw [hal.out]; unfold rcls; rw [if_neg ha, if_pos rfl])
      clear hal
      (refine wp_region_flow [] (by kernel_rfl) (by kernel_rfl) ?_; (repeat (((with_reducible refine wpFlow_steps ?_); intro K hK; go_simp; first | (with_reducible refine hK _ ?_; clear hK K) | (apply Exists.intro; (with_reducible refine ⟨fun _ => ⟨?_, _, rfl⟩, hK _ ?_⟩); (· exact rfl); clear hK K) | (apply Exists.intro; (with_reducible refine ⟨fun _ => ⟨_, rfl⟩, hK _ ?_⟩); clear hK K) | (apply Exists.intro; (with_reducible refine ⟨fun _ => ?_, hK _ ?_⟩); (· (with_reducible (fail))); clear hK K)))); (refine wpFlow_nil ?_; rintro w1 ⟨q0, hq0⟩; have hb := In.h q0; rw [← hq0] at hb; clear hq0 q0; (first | ((with_reducible obtain ⟨p, hw''⟩ := In.of2 p hb); subst hw'') | (obtain ⟨p, hw''⟩ := In.of hb; subst hw'')); go_simp; intros))
      go_upto_region 6 with fail
      go_wp2_with ((with_reducible refine (d1 _).mono ?_); rintro e w3 ⟨rfl, hb3⟩; (first | ((with_reducible obtain ⟨p, hw''⟩ := In.of2 p hb3); subst hw'') | (obtain ⟨p, hw''⟩ := In.of hb3; subst hw'')))
      refine bodyPost_ret (v := .tuple #[.int .i64 c0, .bool q0]) (by simp only [results, Try.results20, hq.out]; go_simp) rfl ⟨rfl, ?_⟩
      exact p.back bk
    · have hb' : (kb == 3) = false := by simpa using hb
      have hq := Lib.hid (show q0 = (ka == kb) by rw [hal.out]; unfold rcls; rw [if_neg ha, if_neg hb])
      clear hal
      (refine wp_region_flow [] (by kernel_rfl) (by kernel_rfl) ?_; (repeat (((with_reducible refine wpFlow_steps ?_); intro K hK; go_simp; first | (with_reducible refine hK _ ?_; clear hK K) | (apply Exists.intro; (with_reducible refine ⟨fun _ => ⟨?_, _, rfl⟩, hK _ ?_⟩); (· exact rfl); clear hK K) | (apply Exists.intro; (with_reducible refine ⟨fun _ => ⟨_, rfl⟩, hK _ ?_⟩); clear hK K) | (apply Exists.intro; (with_reducible refine ⟨fun _ => ?_, hK _ ?_⟩); (· (with_reducible (fail))); clear hK K)))); (refine wpFlow_nil ?_; rintro w1 ⟨q0, hq0⟩; have hb := In.h q0; rw [← hq0] at hb; clear hq0 q0; (first | ((with_reducible obtain ⟨p, hw''⟩ := In.of2 p hb); subst hw'') | (obtain ⟨p, hw''⟩ := In.of hb; subst hw'')); go_simp; intros))
      go_upto_region 6 with fail
      go_wp2_with ((with_reducible refine (d1 _).mono ?_); rintro e w3 ⟨rfl, hb3⟩; (first | ((with_reducible obtain ⟨p, hw''⟩ := In.of2 p hb3); subst hw'') | (obtain ⟨p, hw''⟩ := In.of hb3; subst hw'')))
      refine bodyPost_ret (v := .tuple #[.int .i64 c0, .bool q0]) (by simp only [results, Try.results20, hq.out]; go_simp) rfl ⟨rfl, ?_⟩
      exact p.back bk
set_option maxRecDepth 8000 in
set_option maxHeartbeats 2000000 in
theorem rholds_eq_c (u : Value) (v x : Val) (A : Option Addr) (cap : Nat) (w : World) (hv : Has w u v) (hp : Parts w A [x]) :
    Calls Try.prog 12 #[predV [101, 113] A 1 cap none 0 0, u] w fun e w' => e = .returned (.bool (tellV [101, 113] v x)) ∧ Below w.heap.size w w' := by
  have ht : tellV [101, 113] v x = eqV v x := by simp [tellV]
  rw [ht]
  clear ht
  obtain ⟨ad, k', b', n', f', s', B', len', c', had, hx, hat⟩ := hp 0 x rfl
  subst had
  rw [show ad.add (0 * 6) = ad from rfl] at hat
  have co : ∀ w', Below w.heap.size w w' → Calls Try.prog 18 #[u, .slice (some ad) 1 cap] w' fun e w'' => e = .returned (.bool (eqV v x)) ∧ Below w'.heap.size w' w'' := fun w' hb => by
    have := rin_c u v [x] (some ad) cap w' (hv.keep hb) (hp.keep hb) (by simp [maxLen])
    rw [anyV_one] at this
    exact this
  obtain ⟨B, capb, rfl, _⟩ := hv.open
  clear hv hx hp
  generalize eqV v x = e0 at *
  generalize cmpV v x = c0 at *
  generalize alikeV v x = q0 at *
  go_enter Try.func12, Try.ntmps12
  go_upto_region 1 with fail
  obtain ⟨w1, hw1⟩ : ∃ w1, w1 = (w.alloc (.cells #[.string (st [101, 113]), .slice (some ad) 1 cap, .slice none 0 0] 25)).alloc (.cells #[.int .i64 v.k, .bool v.b, .int .i64 v.n, .float .f64 v.f, .string (st v.s), .slice B v.l.length capb] 31) := ⟨_, rfl⟩
  have bk : Below w.heap.size w w1 := hw1 ▸ (below_alloc w _).alloc (by simp) _
  obtain ⟨x6, x0, x1, x2, x3, x4, x5⟩ : Box w1 (w.heap.size + 1) v.k v.b v.n v.f v.s B v.l.length capb := hw1 ▸ Box.new2 w v.k v.b v.n v.f v.s B v.l.length capb _ _
  have hx7 : w.heap.size + 1 < w1.heap.size := by rw [hw1]; simp
  have z0 : w1.cell? ⟨w.heap.size, 0, none⟩ = some (.string (st [101, 113])) := by rw [hw1]; simp [go_sem]
  have z1 : w1.cell? ⟨w.heap.size, 1, none⟩ = some (.slice (some ad) 1 cap) := by rw [hw1]; simp [go_sem]
  have z6 : w.heap.size < w1.heap.size := by omega
  rw [← hw1]
  clear hw1
  have d1 := fun p : In w1 => co p.w (p.back bk)
  have d0 := co w1 bk
  clear co
  obtain ⟨q6, q0', q1, q2, q3, q4, q5⟩ := hat.keep bk
  clear hat
  go_wp2_with ((with_reducible refine d0.mono ?_); rintro e w3 ⟨rfl, hb3⟩; (first | ((with_reducible obtain ⟨p, hw''⟩ := In.of2 p hb3); subst hw'') | (obtain ⟨p, hw''⟩ := In.of hb3; subst hw'')))
  go_ret
  exact ⟨rfl, p.back bk⟩
set_option maxRecDepth 8000 in
set_option maxHeartbeats 2000000 in
theorem rholds_neq_c (u : Value) (v x : Val) (A : Option Addr) (cap : Nat) (w : World) (hv : Has w u v) (hp : Parts w A [x]) :
    Calls Try.prog 12 #[predV [110, 101, 113] A 1 cap none 0 0, u] w fun e w' => e = .returned (.bool (tellV [110, 101, 113] v x)) ∧ Below w.heap.size w w' := by
  have ht : tellV [110, 101, 113] v x = !eqV v x := by simp [tellV]
  rw [ht]
  clear ht
  obtain ⟨ad, k', b', n', f', s', B', len', c', had, hx, hat⟩ := hp 0 x rfl
  subst had
  rw [show ad.add (0 * 6) = ad from rfl] at hat
  have co : ∀ w', Below w.heap.size w w' → Calls Try.prog 18 #[u, .slice (some ad) 1 cap] w' fun e w'' => e = .returned (.bool (eqV v x)) ∧ Below w'.heap.size w' w'' := fun w' hb => by
    have := rin_c u v [x] (some ad) cap w' (hv.keep hb) (hp.keep hb) (by simp [maxLen])
    rw [anyV_one] at this
    exact this
  obtain ⟨B, capb, rfl, _⟩ := hv.open
  clear hv hx hp
  generalize eqV v x = e0 at *
  generalize cmpV v x = c0 at *
  generalize alikeV v x = q0 at *
  go_enter Try.func12, Try.ntmps12
  go_upto_region 1 with fail
  obtain ⟨w1, hw1⟩ : ∃ w1, w1 = (w.alloc (.cells #[.string (st [110, 101, 113]), .slice (some ad) 1 cap, .slice none 0 0] 25)).alloc (.cells #[.int .i64 v.k, .bool v.b, .int .i64 v.n, .float .f64 v.f, .string (st v.s), .slice B v.l.length capb] 31) := ⟨_, rfl⟩
  have bk : Below w.heap.size w w1 := hw1 ▸ (below_alloc w _).alloc (by simp) _
  obtain ⟨x6, x0, x1, x2, x3, x4, x5⟩ : Box w1 (w.heap.size + 1) v.k v.b v.n v.f v.s B v.l.length capb := hw1 ▸ Box.new2 w v.k v.b v.n v.f v.s B v.l.length capb _ _
  have hx7 : w.heap.size + 1 < w1.heap.size := by rw [hw1]; simp
  have z0 : w1.cell? ⟨w.heap.size, 0, none⟩ = some (.string (st [110, 101, 113])) := by rw [hw1]; simp [go_sem]
  have z1 : w1.cell? ⟨w.heap.size, 1, none⟩ = some (.slice (some ad) 1 cap) := by rw [hw1]; simp [go_sem]
  have z6 : w.heap.size < w1.heap.size := by omega
  rw [← hw1]
  clear hw1
  have d1 := fun p : In w1 => co p.w (p.back bk)
  have d0 := co w1 bk
  clear co
  obtain ⟨q6, q0', q1, q2, q3, q4, q5⟩ := hat.keep bk
  clear hat
  go_wp2_with ((with_reducible refine d0.mono ?_); rintro e w3 ⟨rfl, hb3⟩; (first | ((with_reducible obtain ⟨p, hw''⟩ := In.of2 p hb3); subst hw'') | (obtain ⟨p, hw''⟩ := In.of hb3; subst hw'')))
  go_ret
  exact ⟨rfl, p.back bk⟩
set_option maxRecDepth 8000 in
set_option maxHeartbeats 2000000 in
theorem rholds_lt_c (u : Value) (v x : Val) (A : Option Addr) (cap : Nat) (w : World) (hv : Has w u v) (hp : Parts w A [x]) :
    Calls Try.prog 12 #[predV [108, 116] A 1 cap none 0 0, u] w fun e w' => e = .returned (.bool (tellV [108, 116] v x)) ∧ Below w.heap.size w w' := by
  have ht : tellV [108, 116] v x = (alikeV v x && decide (cmpV v x < 0)) := by simp [tellV]
  rw [ht]
  clear ht
  obtain ⟨ad, k', b', n', f', s', B', len', c', had, hx, hat⟩ := hp 0 x rfl
  subst had
  rw [show ad.add (0 * 6) = ad from rfl] at hat
  have co : ∀ w', Below w.heap.size w w' → Calls Try.prog 20 #[u, valV k' b' n' f' s' B' len' c'] w' fun e w'' => e = .returned (.tuple #[.int .i64 (cmpV v x), .bool (alikeV v x)]) ∧ Below w'.heap.size w' w'' := fun w' hb => rcmp16_c u v _ x w' (hv.keep hb) (hx.keep hb)
  obtain ⟨B, capb, rfl, _⟩ := hv.open
  clear hv hx hp
  generalize eqV v x = e0 at *
  generalize cmpV v x = c0 at *
  generalize alikeV v x = q0 at *
  go_enter Try.func12, Try.ntmps12
  go_upto_region 1 with fail
  obtain ⟨w1, hw1⟩ : ∃ w1, w1 = (w.alloc (.cells #[.string (st [108, 116]), .slice (some ad) 1 cap, .slice none 0 0] 25)).alloc (.cells #[.int .i64 v.k, .bool v.b, .int .i64 v.n, .float .f64 v.f, .string (st v.s), .slice B v.l.length capb] 31) := ⟨_, rfl⟩
  have bk : Below w.heap.size w w1 := hw1 ▸ (below_alloc w _).alloc (by simp) _
  obtain ⟨x6, x0, x1, x2, x3, x4, x5⟩ : Box w1 (w.heap.size + 1) v.k v.b v.n v.f v.s B v.l.length capb := hw1 ▸ Box.new2 w v.k v.b v.n v.f v.s B v.l.length capb _ _
  have hx7 : w.heap.size + 1 < w1.heap.size := by rw [hw1]; simp
  have z0 : w1.cell? ⟨w.heap.size, 0, none⟩ = some (.string (st [108, 116])) := by rw [hw1]; simp [go_sem]
  have z1 : w1.cell? ⟨w.heap.size, 1, none⟩ = some (.slice (some ad) 1 cap) := by rw [hw1]; simp [go_sem]
  have z6 : w.heap.size < w1.heap.size := by omega
  rw [← hw1]
  clear hw1
  have d1 := fun p : In w1 => co p.w (p.back bk)
  have d0 := co w1 bk
  clear co
  obtain ⟨q6, q0', q1, q2, q3, q4, q5⟩ := hat.keep bk
  clear hat
  go_upto_region 23 with fail
  (refine wp_region_flow [] (by kernel_rfl) (by kernel_rfl) ?_; (repeat (((with_reducible refine wpFlow_steps ?_); intro K hK; go_simp; first | (with_reducible refine hK _ ?_; clear hK K) | (apply Exists.intro; (with_reducible refine ⟨fun _ => ⟨?_, _, rfl⟩, hK _ ?_⟩); (· exact rfl); clear hK K) | (apply Exists.intro; (with_reducible refine ⟨fun _ => ⟨_, rfl⟩, hK _ ?_⟩); clear hK K) | (apply Exists.intro; (with_reducible refine ⟨fun _ => ?_, hK _ ?_⟩); (· (with_reducible (exact d1 _))); clear hK K)))); (refine wpFlow_nil ?_; rintro w1 ⟨q0, hq0⟩; have hb := In.h q0; rw [← hq0] at hb; clear hq0 q0; (first | ((with_reducible obtain ⟨p, hw''⟩ := In.of2 p hb); subst hw'') | (obtain ⟨p, hw''⟩ := In.of hb; subst hw'')); go_simp; intros))
  cases q0
  · go_wp2_with fail
    go_ret
    exact ⟨rfl, p.back bk⟩
  · go_wp2_with fail
    go_ret
    exact ⟨rfl, p.back bk⟩
set_option maxRecDepth 8000 in
set_option maxHeartbeats 2000000 in
theorem rholds_lte_c (u : Value) (v x : Val) (A : Option Addr) (cap : Nat) (w : World) (hv : Has w u v) (hp : Parts w A [x]) :
    Calls Try.prog 12 #[predV [108, 116, 101] A 1 cap none 0 0, u] w fun e w' => e = .returned (.bool (tellV [108, 116, 101] v x)) ∧ Below w.heap.size w w' := by
  have ht : tellV [108, 116, 101] v x = (alikeV v x && decide (cmpV v x ≤ 0)) := by simp [tellV]
  rw [ht]
  clear ht
  obtain ⟨ad, k', b', n', f', s', B', len', c', had, hx, hat⟩ := hp 0 x rfl
  subst had
  rw [show ad.add (0 * 6) = ad from rfl] at hat
  have co : ∀ w', Below w.heap.size w w' → Calls Try.prog 20 #[u, valV k' b' n' f' s' B' len' c'] w' fun e w'' => e = .returned (.tuple #[.int .i64 (cmpV v x), .bool (alikeV v x)]) ∧ Below w'.heap.size w' w'' := fun w' hb => rcmp16_c u v _ x w' (hv.keep hb) (hx.keep hb)
  obtain ⟨B, capb, rfl, _⟩ := hv.open
  clear hv hx hp
  generalize eqV v x = e0 at *
  generalize cmpV v x = c0 at *
  generalize alikeV v x = q0 at *
  go_enter Try.func12, Try.ntmps12
  go_upto_region 1 with fail
  obtain ⟨w1, hw1⟩ : ∃ w1, w1 = (w.alloc (.cells #[.string (st [108, 116, 101]), .slice (some ad) 1 cap, .slice none 0 0] 25)).alloc (.cells #[.int .i64 v.k, .bool v.b, .int .i64 v.n, .float .f64 v.f, .string (st v.s), .slice B v.l.length capb] 31) := ⟨_, rfl⟩
  have bk : Below w.heap.size w w1 := hw1 ▸ (below_alloc w _).alloc (by simp) _
  obtain ⟨x6, x0, x1, x2, x3, x4, x5⟩ : Box w1 (w.heap.size + 1) v.k v.b v.n v.f v.s B v.l.length capb := hw1 ▸ Box.new2 w v.k v.b v.n v.f v.s B v.l.length capb _ _
  have hx7 : w.heap.size + 1 < w1.heap.size := by rw [hw1]; simp
  have z0 : w1.cell? ⟨w.heap.size, 0, none⟩ = some (.string (st [108, 116, 101])) := by rw [hw1]; simp [go_sem]
  have z1 : w1.cell? ⟨w.heap.size, 1, none⟩ = some (.slice (some ad) 1 cap) := by rw [hw1]; simp [go_sem]
  have z6 : w.heap.size < w1.heap.size := by omega
  rw [← hw1]
  clear hw1
  have d1 := fun p : In w1 => co p.w (p.back bk)
  have d0 := co w1 bk
  clear co
  obtain ⟨q6, q0', q1, q2, q3, q4, q5⟩ := hat.keep bk
  clear hat
  go_upto_region 23 with fail
  (refine wp_region_flow [] (by kernel_rfl) (by kernel_rfl) ?_; (repeat (((with_reducible refine wpFlow_steps ?_); intro K hK; go_simp; first | (with_reducible refine hK _ ?_; clear hK K) | (apply Exists.intro; (with_reducible refine ⟨fun _ => ⟨?_, _, rfl⟩, hK _ ?_⟩); (· exact rfl); clear hK K) | (apply Exists.intro; (with_reducible refine ⟨fun _ => ⟨_, rfl⟩, hK _ ?_⟩); clear hK K) | (apply Exists.intro; (with_reducible refine ⟨fun _ => ?_, hK _ ?_⟩); (· (with_reducible (exact d1 _))); clear hK K)))); (refine wpFlow_nil ?_; rintro w1 ⟨q0, hq0⟩; have hb := In.h q0; rw [← hq0] at hb; clear hq0 q0; (first | ((with_reducible obtain ⟨p, hw''⟩ := In.of2 p hb); subst hw'') | (obtain ⟨p, hw''⟩ := In.of hb; subst hw'')); go_simp; intros))
  cases q0
  · go_wp2_with fail
    go_ret
    exact ⟨rfl, p.back bk⟩
  · go_wp2_with fail
    go_ret
    exact ⟨rfl, p.back bk⟩
set_option maxRecDepth 8000 in
set_option maxHeartbeats 2000000 in
theorem rholds_gt_c (u : Value) (v x : Val) (A : Option Addr) (cap : Nat) (w : World) (hv : Has w u v) (hp : Parts w A [x]) :
    Calls Try.prog 12 #[predV [103, 116] A 1 cap none 0 0, u] w fun e w' => e = .returned (.bool (tellV [103, 116] v x)) ∧ Below w.heap.size w w' := by
  have ht : tellV [103, 116] v x = (alikeV v x && decide (0 < cmpV v x)) := by simp [tellV]
  rw [ht]
  clear ht
  obtain ⟨ad, k', b', n', f', s', B', len', c', had, hx, hat⟩ := hp 0 x rfl
  subst had
  rw [show ad.add (0 * 6) = ad from rfl] at hat
  have co : ∀ w', Below w.heap.size w w' → Calls Try.prog 20 #[u, valV k' b' n' f' s' B' len' c'] w' fun e w'' => e = .returned (.tuple #[.int .i64 (cmpV v x), .bool (alikeV v x)]) ∧ Below w'.heap.size w' w'' := fun w' hb => rcmp16_c u v _ x w' (hv.keep hb) (hx.keep hb)
  obtain ⟨B, capb, rfl, _⟩ := hv.open
  clear hv hx hp
  generalize eqV v x = e0 at *
  generalize cmpV v x = c0 at *
  generalize alikeV v x = q0 at *
  go_enter Try.func12, Try.ntmps12
  go_upto_region 1 with fail
  obtain ⟨w1, hw1⟩ : ∃ w1, w1 = (w.alloc (.cells #[.string (st [103, 116]), .slice (some ad) 1 cap, .slice none 0 0] 25)).alloc (.cells #[.int .i64 v.k, .bool v.b, .int .i64 v.n, .float .f64 v.f, .string (st v.s), .slice B v.l.length capb] 31) := ⟨_, rfl⟩
  have bk : Below w.heap.size w w1 := hw1 ▸ (below_alloc w _).alloc (by simp) _
  obtain ⟨x6, x0, x1, x2, x3, x4, x5⟩ : Box w1 (w.heap.size + 1) v.k v.b v.n v.f v.s B v.l.length capb := hw1 ▸ Box.new2 w v.k v.b v.n v.f v.s B v.l.length capb _ _
  have hx7 : w.heap.size + 1 < w1.heap.size := by rw [hw1]; simp
  have z0 : w1.cell? ⟨w.heap.size, 0, none⟩ = some (.string (st [103, 116])) := by rw [hw1]; simp [go_sem]
  have z1 : w1.cell? ⟨w.heap.size, 1, none⟩ = some (.slice (some ad) 1 cap) := by rw [hw1]; simp [go_sem]
  have z6 : w.heap.size < w1.heap.size := by omega
  rw [← hw1]
  clear hw1
  have d1 := fun p : In w1 => co p.w (p.back bk)
  have d0 := co w1 bk
  clear co
  obtain ⟨q6, q0', q1, q2, q3, q4, q5⟩ := hat.keep bk
  clear hat
  go_upto_region 23 with fail
  (refine wp_region_flow [] (by kernel_rfl) (by kernel_rfl) ?_; (repeat (((with_reducible refine wpFlow_steps ?_); intro K hK; go_simp; first | (with_reducible refine hK _ ?_; clear hK K) | (apply Exists.intro; (with_reducible refine ⟨fun _ => ⟨?_, _, rfl⟩, hK _ ?_⟩); (· exact rfl); clear hK K) | (apply Exists.intro; (with_reducible refine ⟨fun _ => ⟨_, rfl⟩, hK _ ?_⟩); clear hK K) | (apply Exists.intro; (with_reducible refine ⟨fun _ => ?_, hK _ ?_⟩); (· (with_reducible (exact d1 _))); clear hK K)))); (refine wpFlow_nil ?_; rintro w1 ⟨q0, hq0⟩; have hb := In.h q0; rw [← hq0] at hb; clear hq0 q0; (first | ((with_reducible obtain ⟨p, hw''⟩ := In.of2 p hb); subst hw'') | (obtain ⟨p, hw''⟩ := In.of hb; subst hw'')); go_simp; intros))
  cases q0
  · go_wp2_with fail
    go_ret
    exact ⟨rfl, p.back bk⟩
  · go_wp2_with fail
    go_ret
    exact ⟨rfl, p.back bk⟩
set_option maxRecDepth 8000 in
set_option maxHeartbeats 2000000 in
theorem rholds_gte_c (u : Value) (v x : Val) (A : Option Addr) (cap : Nat) (w : World) (hv : Has w u v) (hp : Parts w A [x]) :
    Calls Try.prog 12 #[predV [103, 116, 101] A 1 cap none 0 0, u] w fun e w' => e = .returned (.bool (tellV [103, 116, 101] v x)) ∧ Below w.heap.size w w' := by
  have ht : tellV [103, 116, 101] v x = (alikeV v x && decide (0 ≤ cmpV v x)) := by simp [tellV]
  rw [ht]
  clear ht
  obtain ⟨ad, k', b', n', f', s', B', len', c', had, hx, hat⟩ := hp 0 x rfl
  subst had
  rw [show ad.add (0 * 6) = ad from rfl] at hat
  have co : ∀ w', Below w.heap.size w w' → Calls Try.prog 20 #[u, valV k' b' n' f' s' B' len' c'] w' fun e w'' => e = .returned (.tuple #[.int .i64 (cmpV v x), .bool (alikeV v x)]) ∧ Below w'.heap.size w' w'' := fun w' hb => rcmp16_c u v _ x w' (hv.keep hb) (hx.keep hb)
  obtain ⟨B, capb, rfl, _⟩ := hv.open
  clear hv hx hp
  generalize eqV v x = e0 at *
  generalize cmpV v x = c0 at *
  generalize alikeV v x = q0 at *
  go_enter Try.func12, Try.ntmps12
  go_upto_region 1 with fail
  obtain ⟨w1, hw1⟩ : ∃ w1, w1 = (w.alloc (.cells #[.string (st [103, 116, 101]), .slice (some ad) 1 cap, .slice none 0 0] 25)).alloc (.cells #[.int .i64 v.k, .bool v.b, .int .i64 v.n, .float .f64 v.f, .string (st v.s), .slice B v.l.length capb] 31) := ⟨_, rfl⟩
  have bk : Below w.heap.size w w1 := hw1 ▸ (below_alloc w _).alloc (by simp) _
  obtain ⟨x6, x0, x1, x2, x3, x4, x5⟩ : Box w1 (w.heap.size + 1) v.k v.b v.n v.f v.s B v.l.length capb := hw1 ▸ Box.new2 w v.k v.b v.n v.f v.s B v.l.length capb _ _
  have hx7 : w.heap.size + 1 < w1.heap.size := by rw [hw1]; simp
  have z0 : w1.cell? ⟨w.heap.size, 0, none⟩ = some (.string (st [103, 116, 101])) := by rw [hw1]; simp [go_sem]
  have z1 : w1.cell? ⟨w.heap.size, 1, none⟩ = some (.slice (some ad) 1 cap) := by rw [hw1]; simp [go_sem]
  have z6 : w.heap.size < w1.heap.size := by omega
  rw [← hw1]
  clear hw1
  have d1 := fun p : In w1 => co p.w (p.back bk)
  have d0 := co w1 bk
  clear co
  obtain ⟨q6, q0', q1, q2, q3, q4, q5⟩ := hat.keep bk
  clear hat
  go_upto_region 23 with fail
  (refine wp_region_flow [] (by kernel_rfl) (by kernel_rfl) ?_; (repeat (((with_reducible refine wpFlow_steps ?_); intro K hK; go_simp; first | (with_reducible refine hK _ ?_; clear hK K) | (apply Exists.intro; (with_reducible refine ⟨fun _ => ⟨?_, _, rfl⟩, hK _ ?_⟩); (· exact rfl); clear hK K) | (apply Exists.intro; (with_reducible refine ⟨fun _ => ⟨_, rfl⟩, hK _ ?_⟩); clear hK K) | (apply Exists.intro; (with_reducible refine ⟨fun _ => ?_, hK _ ?_⟩); (· (with_reducible (exact d1 _))); clear hK K)))); (refine wpFlow_nil ?_; rintro w1 ⟨q0, hq0⟩; have hb := In.h q0; rw [← hq0] at hb; clear hq0 q0; (first | ((with_reducible obtain ⟨p, hw''⟩ := In.of2 p hb); subst hw'') | (obtain ⟨p, hw''⟩ := In.of hb; subst hw'')); go_simp; intros))
  cases q0
  · go_wp2_with fail
    go_ret
    exact ⟨rfl, p.back bk⟩
  · go_wp2_with fail
    go_ret
    exact ⟨rfl, p.back bk⟩
theorem rholds1_c (op : List UInt8) (h : Six op) (u : Value) (v x : Val) (A : Option Addr) (cap : Nat) (w : World) (hv : Has w u v) (hp : Parts w A [x]) :
    Calls Try.prog 12 #[predV op A 1 cap none 0 0, u] w fun e w' => e = .returned (.bool (tellV op v x)) ∧ Below w.heap.size w w' := by
  rcases h with rfl | rfl | rfl | rfl | rfl | rfl
  · exact rholds_eq_c u v x A cap w hv hp
  · exact rholds_neq_c u v x A cap w hv hp
  · exact rholds_lt_c u v x A cap w hv hp
  · exact rholds_lte_c u v x A cap w hv hp
  · exact rholds_gt_c u v x A cap w hv hp
  · exact rholds_gte_c u v x A cap w hv hp
end Go.Proofs.Ytglcnnnjdkjggaa
