
/-
  How two values are ordered: the plain order, and the walk of the reference's Cmp.
-/
import Derived.Test.YtipjelkdbbhcpaaValB
import Derived.Lib.Bytealg
import Derived.Deep.DeepCutAuto
set_option linter.unusedSimpArgs false
set_option linter.unusedVariables false
namespace Go.Proofs.Ytipjelkdbbhcpaa
open Go.RowKit

def sgnI (x y : Int) : Int := if x < y then -1 else if y < x then 1 else 0
def rcls (k : Int) : Int := if k = 3 then 2 else k
def clsV (k : Int) : Int := if 3 ≤ k then k - 1 else k
theorem cls_sgn (a b : Int) : sgnI (clsV a) (clsV b) = sgnI (rcls a) (rcls b) := by
  unfold sgnI clsV rcls
  split <;> split <;> split <;> split <;> (repeat' split) <;> omega
mutual
/-- how a value is ordered to another one: -1, 0 or 1 -/
def cmpV : Val → Val → Int
  | .mk ka ba na fa sa la, .mk kb bb nb fb sb lb =>
    if rcls ka ≠ rcls kb then sgnI (rcls ka) (rcls kb)
    else if ka = 1 then (if ba = bb then 0 else if bb then -1 else 1)
    else if ka = 2 ∧ kb = 3 then mixF na fb
    else if ka = 3 ∧ kb = 2 then - mixF nb fa
    else if ka = 3 then cmpF fa fb
    else if ka = 4 then Go.Lib.compareBytes sa sb
    else if ka = 5 ∨ ka = 6 then cmpVL la lb
    else sgnI na nb
def cmpVL : List Val → List Val → Int
  | [], [] => 0
  | [], _ :: _ => -1
  | _ :: _, [] => 1
  | a :: la, b :: lb => if cmpV a b ≠ 0 then cmpV a b else cmpVL la lb
end
theorem less_cmp : ∀ (a b : List UInt8), Go.Op.bytesLess a b = decide (Go.Lib.compareBytes a b < 0) := by
  intro a
  induction a with
  | nil => intro b; cases b <;> simp [Go.Op.bytesLess, Go.Lib.compareBytes]
  | cons x a ih =>
    intro b
    cases b with
    | nil => simp [Go.Op.bytesLess, Go.Lib.compareBytes]
    | cons y b =>
      simp only [Go.Op.bytesLess, Go.Lib.compareBytes, ih]
      by_cases h : x < y
      · simp [h]
      · by_cases h2 : y < x
        · have : x ≠ y := fun e => by subst e; exact h h2
          simp [h, h2, this]
        · have : x = y := UInt8.le_antisymm (UInt8.not_lt.1 h2) (UInt8.not_lt.1 h)
          subst this
          simp [h]
theorem eq_cmp : ∀ (a b : List UInt8), (a == b) = decide (Go.Lib.compareBytes a b = 0) := by
  intro a
  induction a with
  | nil => intro b; cases b <;> simp [Go.Lib.compareBytes]
  | cons x a ih =>
    intro b
    cases b with
    | nil => simp [Go.Lib.compareBytes]
    | cons y b =>
      simp only [Go.Lib.compareBytes, List.cons_beq_cons, ih]
      by_cases h : x < y
      · have : x ≠ y := fun e => by subst e; exact UInt8.lt_irrefl _ h
        simp [h, this]
      · by_cases h2 : y < x
        · have : x ≠ y := fun e => by subst e; exact h h2
          simp [h, h2, this]
        · have : x = y := UInt8.le_antisymm (UInt8.not_lt.1 h2) (UInt8.not_lt.1 h)
          subst this
          simp [h]
theorem cmp_range : ∀ (a b : List UInt8), Go.Lib.compareBytes a b = -1 ∨ Go.Lib.compareBytes a b = 0 ∨ Go.Lib.compareBytes a b = 1 := by
  intro a
  induction a with
  | nil => intro b; cases b <;> simp [Go.Lib.compareBytes]
  | cons x a ih =>
    intro b
    cases b with
    | nil => simp [Go.Lib.compareBytes]
    | cons y b =>
      simp only [Go.Lib.compareBytes]
      split
      · simp
      · split
        · simp
        · exact ih b

theorem rclass_c (k : Int) (w : World) : Calls Try.prog 34 #[.int .i64 k] w fun e w' => e = .returned (.int .i64 (rcls k)) ∧ Below w.heap.size w w' := by
  unfold rcls
  by_cases h : k = 3
  · subst h
    go_enter Try.func34, Try.ntmps34
    go_wp2
    go_ret
    exact ⟨rfl, Below.refl _ _⟩
  · have hb : (k == 3) = false := by simpa using h
    go_enter Try.func34, Try.ntmps34
    go_wp2
    go_ret
    exact ⟨rfl, Below.refl _ _⟩
/-- -1, 1 or 0 -/
def sgB (x y : Bool) : Int := if x then -1 else if y then 1 else 0
theorem rsign_c (x y : Bool) (w : World) : Calls Try.prog 35 #[.bool x, .bool y] w fun e w' => e = .returned (.int .i64 (sgB x y)) ∧ Below w.heap.size w w' := by
  go_enter Try.func35, Try.ntmps35
  cases x <;> cases y <;> go_wp2 <;> go_ret <;> exact ⟨rfl, Below.refl _ _⟩

theorem cmpV_apart {ka kb : Int} (h : rcls ka ≠ rcls kb) (ba bb : Bool) (na nb : Int) (fa fb : Nat) (sa sb : List UInt8) (la lb : List Val) : cmpV (.mk ka ba na fa sa la) (.mk kb bb nb fb sb lb) = (if rcls ka < rcls kb then -1 else 1) := by
  unfold cmpV sgnI
  rw [if_pos h]
  split
  · rfl
  · rw [if_pos (by omega)]

theorem cmpVL_end {la lb : List Val} {i : Nat} (h : i = la.length ∨ i = lb.length) (ha : i ≤ la.length) (hb : i ≤ lb.length) : cmpVL (la.drop i) (lb.drop i) = sgnI la.length lb.length := by
  unfold sgnI
  rcases h with h | h
  · have e : la.drop i = [] := by rw [h]; simp
    rw [e]
    rcases Nat.lt_or_ge i lb.length with h2 | h2
    · rw [List.drop_eq_getElem_cons h2, cmpVL, if_pos (by omega)]
    · have e2 : lb.drop i = [] := List.drop_eq_nil_of_le h2
      rw [e2, cmpVL, if_neg (by omega), if_neg (by omega)]
  · have e : lb.drop i = [] := by rw [h]; simp
    rw [e]
    rcases Nat.lt_or_ge i la.length with h2 | h2
    · rw [List.drop_eq_getElem_cons h2, cmpVL, if_neg (by omega), if_pos (by omega)]
    · have e2 : la.drop i = [] := List.drop_eq_nil_of_le h2
      rw [e2, cmpVL, if_neg (by omega), if_neg (by omega)]
theorem cmpVL_step {la lb : List Val} {i : Nat} {x y : Val} (hx : la[i]? = some x) (hy : lb[i]? = some y) : cmpVL (la.drop i) (lb.drop i) = if cmpV x y ≠ 0 then cmpV x y else cmpVL (la.drop (i + 1)) (lb.drop (i + 1)) := by
  obtain ⟨h1, rfl⟩ := List.getElem?_eq_some_iff.1 hx
  obtain ⟨h2, rfl⟩ := List.getElem?_eq_some_iff.1 hy
  rw [List.drop_eq_getElem_cons h1, List.drop_eq_getElem_cons h2, cmpVL]
theorem cmpF_range (a b : Nat) : cmpF a b = -1 ∨ cmpF a b = 0 ∨ cmpF a b = 1 := by
  unfold cmpF
  split
  · simp
  · split <;> simp
theorem mixF_range (n : Int) (f : Nat) : mixF n f = -1 ∨ mixF n f = 0 ∨ mixF n f = 1 := by
  unfold mixF
  split
  · exact cmpF_range _ _
  · split <;> simp
theorem sgn_dec (x y : Int) : sgB (decide (x < y)) (decide (y < x)) = sgnI x y := by simp [sgB, sgnI]
theorem sgn_len (x y : Nat) : sgB (decide (x < y)) (decide (y < x)) = sgnI x y := by
  unfold sgB sgnI
  simp
theorem sgn_less (x y : List UInt8) : sgB (Go.Op.bytesLess x y) (!Go.Op.bytesLess x y && !x == y) = Go.Lib.compareBytes x y := by
  unfold sgB
  rw [less_cmp, eq_cmp]
  rcases cmp_range x y with h | h | h <;> rw [h] <;> decide

/-- a value in a block of its own -/
structure Box (w : World) (g : Nat) (k : Int) (b : Bool) (n : Int) (f : Nat) (s : List UInt8) (B : Option Addr) (len c : Nat) : Prop where
  lt : g < w.heap.size
  c0 : w.cell? ⟨g, 0, none⟩ = some (.int .i64 k)
  c1 : w.cell? ⟨g, 1, none⟩ = some (.bool b)
  c2 : w.cell? ⟨g, 2, none⟩ = some (.int .i64 n)
  c3 : w.cell? ⟨g, 3, none⟩ = some (.float .f64 f)
  c4 : w.cell? ⟨g, 4, none⟩ = some (.string (st s))
  c5 : w.cell? ⟨g, 5, none⟩ = some (.slice B len c)
theorem Box.keep {w w' : World} {g : Nat} {k : Int} {b : Bool} {n : Int} {f : Nat} {s : List UInt8} {B : Option Addr} {len c : Nat} (h : Box w g k b n f s B len c) (hb : Below w.heap.size w w') : Box w' g k b n f s B len c :=
  ⟨Nat.lt_of_lt_of_le h.lt hb.size, (hb.cell (p := ⟨g, 0, none⟩) h.lt).trans h.c0, (hb.cell (p := ⟨g, 1, none⟩) h.lt).trans h.c1, (hb.cell (p := ⟨g, 2, none⟩) h.lt).trans h.c2, (hb.cell (p := ⟨g, 3, none⟩) h.lt).trans h.c3, (hb.cell (p := ⟨g, 4, none⟩) h.lt).trans h.c4, (hb.cell (p := ⟨g, 5, none⟩) h.lt).trans h.c5⟩
theorem Box.new (w : World) (k : Int) (b : Bool) (n : Int) (f : Nat) (s : List UInt8) (B : Option Addr) (len c : Nat) (T : TypeId) : Box (w.alloc (.cells #[.int .i64 k, .bool b, .int .i64 n, .float .f64 f, .string (st s), .slice B len c] T)) w.heap.size k b n f s B len c :=
  ⟨by simp, by simp [go_sem], by simp [go_sem], by simp [go_sem], by simp [go_sem], by simp [go_sem], by simp [go_sem]⟩
theorem below_alloc (w : World) (o : Obj) : Below w.heap.size w (w.alloc o) := (Below.refl _ _).alloc (Nat.le_refl _) _
theorem Box.new2 (w : World) (k : Int) (b : Bool) (n : Int) (f : Nat) (s : List UInt8) (B : Option Addr) (len c : Nat) (T : TypeId) (o : Obj) : Box ((w.alloc o).alloc (.cells #[.int .i64 k, .bool b, .int .i64 n, .float .f64 f, .string (st s), .slice B len c] T)) (w.heap.size + 1) k b n f s B len c := by
  have h := Box.new (w.alloc o) k b n f s B len c T
  rwa [show (w.alloc o).heap.size = w.heap.size + 1 from by simp] at h

set_option maxRecDepth 8000 in
set_option maxHeartbeats 4000000 in
theorem rcmpv_c (a : Val) : ∀ (b : Val) (u v : Value) (w : World), Has w u a → Has w v b → Calls Try.prog 12 #[u, v] w (IntEnds (cmpV a b) w) := by
  generalize hz : wsz a = z
  induction z using Nat.strongRecOn generalizing a with
  | _ z ih =>
    intro b u v w hu hv
    obtain ⟨A, capa, rfl, ik, im, jf, hsa, hlba, hla, hca, hpa⟩ := hu.open
    obtain ⟨B, capb, rfl, jk, jm, kf, hsb, hlbb, hlb, hcb, hpb⟩ := hv.open
    have hpart := fun i x => wsz_part (v := a) (x := x) (i := i)
    rw [hz] at hpart
    unfold maxLen at hca hcb
    obtain ⟨ka, ba, na, fa, sa, la⟩ := a
    obtain ⟨kb, bb, nb, fb, sb, lb⟩ := b
    dsimp only [Val.k, Val.b, Val.n, Val.f, Val.s, Val.l] at *
    have c1 := fun w => rclass_c ka w
    have c2 := fun w => rclass_c kb w
    have c3 := fun x y w => rsign_c x y w
    clear hu hv hz
    go_enter Try.func12, Try.ntmps12
    go_wp2
    obtain ⟨w1, hw1⟩ : ∃ w1, w1 = (w.alloc (.cells #[.int .i64 ka, .bool ba, .int .i64 na, .float .f64 fa, .string (st sa), .slice A la.length capa] 27)).alloc (.cells #[.int .i64 kb, .bool bb, .int .i64 nb, .float .f64 fb, .string (st sb), .slice B lb.length capb] 27) := ⟨_, rfl⟩
    have bk : Below w.heap.size w w1 := hw1 ▸ (below_alloc w _).alloc (by simp) _
    obtain ⟨x6, x0, x1, x2, x3, x4, x5⟩ : Box w1 w.heap.size ka ba na fa sa A la.length capa := hw1 ▸ (Box.new w ka ba na fa sa A la.length capa _).keep (below_alloc _ _)
    obtain ⟨y6, y0, y1, y2, y3, y4, y5⟩ : Box w1 (w.heap.size + 1) kb bb nb fb sb B lb.length capb := hw1 ▸ Box.new2 w kb bb nb fb sb B lb.length capb _ _
    rw [← hw1]
    clear hw1
    by_cases hne : rcls ka ≠ rcls kb
    · have hv := cmpV_apart hne ba bb na nb fa fb sa sb la lb
      generalize rcls ka = ca at *
      generalize rcls kb = cb at *
      have hb1 : (ca != cb) = true := by simpa using hne
      by_cases hlt : ca < cb
      · have hd : decide (ca < cb) = true := decide_eq_true hlt
        (refine wp_region_flow [] (by kernel_rfl) (by kernel_rfl) ?_; (repeat (((with_reducible refine wpFlow_steps ?_); intro K hK; go_simp; first | (with_reducible refine hK _ ?_; clear hK K) | (apply Exists.intro; (with_reducible refine ⟨fun _ => ⟨?_, _, rfl⟩, hK _ ?_⟩); (· exact rfl); clear hK K) | (apply Exists.intro; (with_reducible refine ⟨fun _ => ⟨_, rfl⟩, hK _ ?_⟩); clear hK K) | (apply Exists.intro; (with_reducible refine ⟨fun _ => ?_, hK _ ?_⟩); (· (with_reducible (first | exact c1 _ | exact c2 _ | exact c3 _ _ _))); clear hK K)))); (refine wpFlow_nil ?_; rintro w1 ⟨q0, hq0⟩; have hb := In.h q0; rw [← hq0] at hb; clear hq0 q0; (first | ((with_reducible obtain ⟨p, hw''⟩ := In.of2 p hb); subst hw'') | (obtain ⟨p, hw''⟩ := In.of hb; subst hw'')); go_simp; intros))
        go_wp2
        (refine wp_region_flow [] (by kernel_rfl) (by kernel_rfl) ?_; (repeat (((with_reducible refine wpFlow_steps ?_); intro K hK; go_simp; first | (with_reducible refine hK _ ?_; clear hK K) | (apply Exists.intro; (with_reducible refine ⟨fun _ => ⟨?_, _, rfl⟩, hK _ ?_⟩); (· exact rfl); clear hK K) | (apply Exists.intro; (with_reducible refine ⟨fun _ => ⟨_, rfl⟩, hK _ ?_⟩); clear hK K) | (apply Exists.intro; (with_reducible refine ⟨fun _ => ?_, hK _ ?_⟩); (· (with_reducible (first | exact c1 _ | exact c2 _ | exact c3 _ _ _))); clear hK K)))); (refine wpFlow_nil ?_; rintro w1 ⟨q0, hq0⟩; have hb := In.h q0; rw [← hq0] at hb; clear hq0 q0; (first | ((with_reducible obtain ⟨p, hw''⟩ := In.of2 p hb); subst hw'') | (obtain ⟨p, hw''⟩ := In.of hb; subst hw'')); go_simp; intros))
        go_wp2
        go_ret
        exact ⟨ret_int (by rw [hv, if_pos hlt]; rfl), p.back bk⟩
      · have hd : decide (ca < cb) = false := decide_eq_false hlt
        (refine wp_region_flow [] (by kernel_rfl) (by kernel_rfl) ?_; (repeat (((with_reducible refine wpFlow_steps ?_); intro K hK; go_simp; first | (with_reducible refine hK _ ?_; clear hK K) | (apply Exists.intro; (with_reducible refine ⟨fun _ => ⟨?_, _, rfl⟩, hK _ ?_⟩); (· exact rfl); clear hK K) | (apply Exists.intro; (with_reducible refine ⟨fun _ => ⟨_, rfl⟩, hK _ ?_⟩); clear hK K) | (apply Exists.intro; (with_reducible refine ⟨fun _ => ?_, hK _ ?_⟩); (· (with_reducible (first | exact c1 _ | exact c2 _ | exact c3 _ _ _))); clear hK K)))); (refine wpFlow_nil ?_; rintro w1 ⟨q0, hq0⟩; have hb := In.h q0; rw [← hq0] at hb; clear hq0 q0; (first | ((with_reducible obtain ⟨p, hw''⟩ := In.of2 p hb); subst hw'') | (obtain ⟨p, hw''⟩ := In.of hb; subst hw'')); go_simp; intros))
        go_wp2
        (refine wp_region_flow [] (by kernel_rfl) (by kernel_rfl) ?_; (repeat (((with_reducible refine wpFlow_steps ?_); intro K hK; go_simp; first | (with_reducible refine hK _ ?_; clear hK K) | (apply Exists.intro; (with_reducible refine ⟨fun _ => ⟨?_, _, rfl⟩, hK _ ?_⟩); (· exact rfl); clear hK K) | (apply Exists.intro; (with_reducible refine ⟨fun _ => ⟨_, rfl⟩, hK _ ?_⟩); clear hK K) | (apply Exists.intro; (with_reducible refine ⟨fun _ => ?_, hK _ ?_⟩); (· (with_reducible (first | exact c1 _ | exact c2 _ | exact c3 _ _ _))); clear hK K)))); (refine wpFlow_nil ?_; rintro w1 ⟨q0, hq0⟩; have hb := In.h q0; rw [← hq0] at hb; clear hq0 q0; (first | ((with_reducible obtain ⟨p, hw''⟩ := In.of2 p hb); subst hw'') | (obtain ⟨p, hw''⟩ := In.of hb; subst hw'')); go_simp; intros))
        go_wp2
        go_ret
        exact ⟨ret_int (by rw [hv, if_neg (by omega)]; rfl), p.back bk⟩
    · have heq : rcls ka = rcls kb := Classical.not_not.1 hne
      have hb1 : (rcls ka != rcls kb) = false := by simp [heq]
      have hcases : (ka = 1 ∧ kb = 1) ∨ (ka = 2 ∧ kb = 2) ∨ (ka = 2 ∧ kb = 3) ∨ (ka = 3 ∧ kb = 2) ∨ (ka = 3 ∧ kb = 3) ∨ (ka = 4 ∧ kb = 4) ∨ ((ka = 5 ∨ ka = 6) ∧ kb = ka) ∨ (ka ≠ 1 ∧ ka ≠ 2 ∧ ka ≠ 3 ∧ ka ≠ 4 ∧ ka ≠ 5 ∧ ka ≠ 6 ∧ kb = ka) := by
        unfold rcls at heq
        split at heq <;> split at heq <;> omega
      clear hne heq
      rcases hcases with ⟨rfl, rfl⟩ | ⟨rfl, rfl⟩ | ⟨rfl, rfl⟩ | ⟨rfl, rfl⟩ | ⟨rfl, rfl⟩ | ⟨rfl, rfl⟩ | ⟨h56, rfl⟩ | ⟨n1, n2, n3, n4, n5, n6, rfl⟩
      · have hv : cmpV (.mk 1 ba na fa sa la) (.mk 1 bb nb fb sb lb) = (if ba = bb then 0 else if bb then -1 else 1) := by simp [cmpV]
        (refine wp_region_flow [] (by kernel_rfl) (by kernel_rfl) ?_; (repeat (((with_reducible refine wpFlow_steps ?_); intro K hK; go_simp; first | (with_reducible refine hK _ ?_; clear hK K) | (apply Exists.intro; (with_reducible refine ⟨fun _ => ⟨?_, _, rfl⟩, hK _ ?_⟩); (· exact rfl); clear hK K) | (apply Exists.intro; (with_reducible refine ⟨fun _ => ⟨_, rfl⟩, hK _ ?_⟩); clear hK K) | (apply Exists.intro; (with_reducible refine ⟨fun _ => ?_, hK _ ?_⟩); (· (with_reducible (first | exact c1 _ | exact c2 _))); clear hK K)))); (refine wpFlow_nil ?_; rintro w1 ⟨q0, hq0⟩; have hb := In.h q0; rw [← hq0] at hb; clear hq0 q0; (first | ((with_reducible obtain ⟨p, hw''⟩ := In.of2 p hb); subst hw'') | (obtain ⟨p, hw''⟩ := In.of hb; subst hw'')); go_simp; intros))
        cases ba <;> cases bb <;> go_wp2_with ((with_reducible refine (c3 _ _ _).mono ?_); rintro e w2 ⟨rfl, hb2⟩; (first | ((with_reducible obtain ⟨p, hw''⟩ := In.of2 p hb2); subst hw'') | (obtain ⟨p, hw''⟩ := In.of hb2; subst hw'')))
        all_goals
          go_ret
          exact ⟨ret_int (by rw [hv]; rfl), p.back bk⟩
      · have hv : cmpV (.mk 2 ba na fa sa la) (.mk 2 bb nb fb sb lb) = sgnI na nb := by simp [cmpV]
        have hv2 := Lib.hid (sgn_dec na nb)
        (refine wp_region_flow [] (by kernel_rfl) (by kernel_rfl) ?_; (repeat (((with_reducible refine wpFlow_steps ?_); intro K hK; go_simp; first | (with_reducible refine hK _ ?_; clear hK K) | (apply Exists.intro; (with_reducible refine ⟨fun _ => ⟨?_, _, rfl⟩, hK _ ?_⟩); (· exact rfl); clear hK K) | (apply Exists.intro; (with_reducible refine ⟨fun _ => ⟨_, rfl⟩, hK _ ?_⟩); clear hK K) | (apply Exists.intro; (with_reducible refine ⟨fun _ => ?_, hK _ ?_⟩); (· (with_reducible (first | exact c1 _ | exact c2 _))); clear hK K)))); (refine wpFlow_nil ?_; rintro w1 ⟨q0, hq0⟩; have hb := In.h q0; rw [← hq0] at hb; clear hq0 q0; (first | ((with_reducible obtain ⟨p, hw''⟩ := In.of2 p hb); subst hw'') | (obtain ⟨p, hw''⟩ := In.of hb; subst hw'')); go_simp; intros))
        go_wp2_with ((with_reducible refine (c3 _ _ _).mono ?_); rintro e w2 ⟨rfl, hb2⟩; (first | ((with_reducible obtain ⟨p, hw''⟩ := In.of2 p hb2); subst hw'') | (obtain ⟨p, hw''⟩ := In.of hb2; subst hw'')))
        go_ret
        exact ⟨ret_int (hv2.out.trans hv.symm), p.back bk⟩
      · have hv : cmpV (.mk 2 ba na fa sa la) (.mk 3 bb nb fb sb lb) = mixF na fb := by simp [cmpV, rcls]
        have c4 : ∀ w, Calls Try.prog 36 #[.int .i64 na, .float .f64 fb] w fun e w' => e = .returned (.int .i64 (mixF na fb)) ∧ w = w' := fun w => rmix_c na fb w im kf
        (refine wp_region_flow [] (by kernel_rfl) (by kernel_rfl) ?_; (repeat (((with_reducible refine wpFlow_steps ?_); intro K hK; go_simp; first | (with_reducible refine hK _ ?_; clear hK K) | (apply Exists.intro; (with_reducible refine ⟨fun _ => ⟨?_, _, rfl⟩, hK _ ?_⟩); (· exact rfl); clear hK K) | (apply Exists.intro; (with_reducible refine ⟨fun _ => ⟨_, rfl⟩, hK _ ?_⟩); clear hK K) | (apply Exists.intro; (with_reducible refine ⟨fun _ => ?_, hK _ ?_⟩); (· (with_reducible (first | exact c1 _ | exact c2 _))); clear hK K)))); (refine wpFlow_nil ?_; rintro w1 ⟨q0, hq0⟩; have hb := In.h q0; rw [← hq0] at hb; clear hq0 q0; (first | ((with_reducible obtain ⟨p, hw''⟩ := In.of2 p hb); subst hw'') | (obtain ⟨p, hw''⟩ := In.of hb; subst hw'')); go_simp; intros))
        go_wp2_with ((with_reducible refine (c4 _).mono ?_); rintro e w2 ⟨rfl, rfl⟩)
        go_ret
        exact ⟨ret_int hv.symm, p.back bk⟩
      · have hv : cmpV (.mk 3 ba na fa sa la) (.mk 2 bb nb fb sb lb) = - mixF nb fa := by simp [cmpV, rcls]
        have c4 : ∀ w, Calls Try.prog 36 #[.int .i64 nb, .float .f64 fa] w fun e w' => e = .returned (.int .i64 (mixF nb fa)) ∧ w = w' := fun w => rmix_c nb fa w jm jf
        have hw : IntKind.i64.wrap (- mixF nb fa) = - mixF nb fa := by
          have := mixF_range nb fa
          rcases this with h | h | h <;> rw [h] <;> decide
        (refine wp_region_flow [] (by kernel_rfl) (by kernel_rfl) ?_; (repeat (((with_reducible refine wpFlow_steps ?_); intro K hK; go_simp; first | (with_reducible refine hK _ ?_; clear hK K) | (apply Exists.intro; (with_reducible refine ⟨fun _ => ⟨?_, _, rfl⟩, hK _ ?_⟩); (· exact rfl); clear hK K) | (apply Exists.intro; (with_reducible refine ⟨fun _ => ⟨_, rfl⟩, hK _ ?_⟩); clear hK K) | (apply Exists.intro; (with_reducible refine ⟨fun _ => ?_, hK _ ?_⟩); (· (with_reducible (first | exact c1 _ | exact c2 _))); clear hK K)))); (refine wpFlow_nil ?_; rintro w1 ⟨q0, hq0⟩; have hb := In.h q0; rw [← hq0] at hb; clear hq0 q0; (first | ((with_reducible obtain ⟨p, hw''⟩ := In.of2 p hb); subst hw'') | (obtain ⟨p, hw''⟩ := In.of hb; subst hw'')); go_simp; intros))
        go_wp2_with ((with_reducible refine (c4 _).mono ?_); rintro e w2 ⟨rfl, rfl⟩)
        go_ret
        exact ⟨ret_int hv.symm, p.back bk⟩
      · have hv : cmpV (.mk 3 ba na fa sa la) (.mk 3 bb nb fb sb lb) = cmpF fa fb := by simp [cmpV]
        have c4 : ∀ w, Calls Try.prog 37 #[.float .f64 fa, .float .f64 fb] w fun e w' => e = .returned (.int .i64 (cmpF fa fb)) ∧ w = w' := fun w => rcmp_c fa fb w jf kf
        (refine wp_region_flow [] (by kernel_rfl) (by kernel_rfl) ?_; (repeat (((with_reducible refine wpFlow_steps ?_); intro K hK; go_simp; first | (with_reducible refine hK _ ?_; clear hK K) | (apply Exists.intro; (with_reducible refine ⟨fun _ => ⟨?_, _, rfl⟩, hK _ ?_⟩); (· exact rfl); clear hK K) | (apply Exists.intro; (with_reducible refine ⟨fun _ => ⟨_, rfl⟩, hK _ ?_⟩); clear hK K) | (apply Exists.intro; (with_reducible refine ⟨fun _ => ?_, hK _ ?_⟩); (· (with_reducible (first | exact c1 _ | exact c2 _))); clear hK K)))); (refine wpFlow_nil ?_; rintro w1 ⟨q0, hq0⟩; have hb := In.h q0; rw [← hq0] at hb; clear hq0 q0; (first | ((with_reducible obtain ⟨p, hw''⟩ := In.of2 p hb); subst hw'') | (obtain ⟨p, hw''⟩ := In.of hb; subst hw'')); go_simp; intros))
        go_wp2_with ((with_reducible refine (c4 _).mono ?_); rintro e w2 ⟨rfl, rfl⟩)
        go_ret
        exact ⟨ret_int hv.symm, p.back bk⟩
      · have hv : cmpV (.mk 4 ba na fa sa la) (.mk 4 bb nb fb sb lb) = Go.Lib.compareBytes sa sb := by simp [cmpV]
        have hv2 := Lib.hid (sgn_less sa sb)
        (refine wp_region_flow [] (by kernel_rfl) (by kernel_rfl) ?_; (repeat (((with_reducible refine wpFlow_steps ?_); intro K hK; go_simp; first | (with_reducible refine hK _ ?_; clear hK K) | (apply Exists.intro; (with_reducible refine ⟨fun _ => ⟨?_, _, rfl⟩, hK _ ?_⟩); (· exact rfl); clear hK K) | (apply Exists.intro; (with_reducible refine ⟨fun _ => ⟨_, rfl⟩, hK _ ?_⟩); clear hK K) | (apply Exists.intro; (with_reducible refine ⟨fun _ => ?_, hK _ ?_⟩); (· (with_reducible (first | exact c1 _ | exact c2 _))); clear hK K)))); (refine wpFlow_nil ?_; rintro w1 ⟨q0, hq0⟩; have hb := In.h q0; rw [← hq0] at hb; clear hq0 q0; (first | ((with_reducible obtain ⟨p, hw''⟩ := In.of2 p hb); subst hw'') | (obtain ⟨p, hw''⟩ := In.of hb; subst hw'')); go_simp; intros))
        go_wp2_with ((with_reducible refine (c3 _ _ _).mono ?_); rintro e w2 ⟨rfl, hb2⟩; (first | ((with_reducible obtain ⟨p, hw''⟩ := In.of2 p hb2); subst hw'') | (obtain ⟨p, hw''⟩ := In.of hb2; subst hw'')))
        go_ret
        exact ⟨ret_int (hv2.out.trans hv.symm), p.back bk⟩
      · have hv : cmpV (.mk kb ba na fa sa la) (.mk kb bb nb fb sb lb) = cmpVL la lb := by
          rcases h56 with h | h <;> simp [cmpV, h]
        have e1 : (kb == 1) = false := by simp; omega
        have e2 : (kb == 2) = false := by simp; omega
        have e3 : (kb == 3) = false := by simp; omega
        have e4 : (kb == 4) = false := by simp; omega
        have hH := Lib.hid h56
        (refine wp_region_flow [] (by kernel_rfl) (by kernel_rfl) ?_; (repeat (((with_reducible refine wpFlow_steps ?_); intro K hK; go_simp; first | (with_reducible refine hK _ ?_; clear hK K) | (apply Exists.intro; (with_reducible refine ⟨fun _ => ⟨?_, _, rfl⟩, hK _ ?_⟩); (· exact rfl); clear hK K) | (apply Exists.intro; (with_reducible refine ⟨fun _ => ⟨_, rfl⟩, hK _ ?_⟩); clear hK K) | (apply Exists.intro; (with_reducible refine ⟨fun _ => ?_, hK _ ?_⟩); (· (with_reducible (first | exact c1 _ | exact c2 _))); clear hK K)))); (refine wpFlow_nil ?_; rintro w1 ⟨q0, hq0⟩; have hb := In.h q0; rw [← hq0] at hb; clear hq0 q0; (first | ((with_reducible obtain ⟨p, hw''⟩ := In.of2 p hb); subst hw'') | (obtain ⟨p, hw''⟩ := In.of hb; subst hw'')); go_simp; intros))
        go_upto_region 13 with fail
        go_cut [95] (fun v wx => v = .bool true ∧ wx = p.w)
        case first =>
          rcases h56 with rfl | rfl
          · go_wp2_with fail
            ((with_reducible show Met _ _ _); refine Met.intro ?_; go_step; (repeat' apply Exists.intro); refine ⟨?_, rfl⟩)
            exact ⟨rfl, rfl⟩
          · go_wp2_with fail
            ((with_reducible show Met _ _ _); refine Met.intro ?_; go_step; (repeat' apply Exists.intro); refine ⟨?_, rfl⟩)
            exact ⟨rfl, rfl⟩
        case rest =>
          obtain ⟨rfl, rfl⟩ := hcut
          go_wp2_with fail
          have bp := p.back bk
          have x5p := (p.h.cell (p := ⟨w.heap.size, 5, none⟩) x6).trans x5
          have y5p := (p.h.cell (p := ⟨w.heap.size + 1, 5, none⟩) y6).trans y5
          have x6p := Nat.lt_of_lt_of_le x6 p.h.size
          have y6p := Nat.lt_of_lt_of_le y6 p.h.size
          clear x0 x1 x2 x3 x4 x5 y0 y1 y2 y3 y4 y5 c1 c2 hb
          go_loopw [5] (fun a5 wr => ∃ i : Nat, a5 = .int .i64 i ∧ i ≤ la.length ∧ i ≤ lb.length ∧ Hid (cmpVL la lb = cmpVL (la.drop i) (lb.drop i)) ∧ Below p.w.heap.size p.w wr) (fun a5 _ => la.length - (intOf a5).toNat)
          case atStart => exact ⟨0, rfl, Nat.zero_le _, Nat.zero_le _, rfl, Below.refl _ _⟩
          case round =>
            obtain ⟨i, rfl, hia, hib, hcm, hbr⟩ := hrel
            have x5r := (hbr.cell (p := ⟨w.heap.size, 5, none⟩) x6p).trans x5p
            have y5r := (hbr.cell (p := ⟨w.heap.size + 1, 5, none⟩) y6p).trans y5p
            have x6r := Nat.lt_of_lt_of_le x6p hbr.size
            have y6r := Nat.lt_of_lt_of_le y6p hbr.size
            have bkr := bp.trans (hbr.mono bp.size)
            by_cases hin : i < la.length ∧ i < lb.length
            · have hla' : (i : Int) < la.length := by omega
              have hlb' : (i : Int) < lb.length := by omega
              obtain ⟨ad, k, b, n, f, s, C, len, c, rfl, hx, hat⟩ := hpa i la[i] (by simp [hin.1])
              obtain ⟨ae, k', b', n', f', s', D, len', c', rfl, hy, hau⟩ := hpb i lb[i] (by simp [hin.2])
              have hxr := hx.keep bkr
              have hyr := hy.keep bkr
              obtain ⟨q0, q1, q2, q3, q4, q5, q6⟩ := hat.keep bkr
              obtain ⟨s0, s1, s2, s3, s4, s5, s6⟩ := hau.keep bkr
              have hst := cmpVL_step (la := la) (lb := lb) (i := i) (x := la[i]) (y := lb[i]) (by simp [hin.1]) (by simp [hin.2])
              have hsz := hpart i la[i] (by simp [hin.1])
              have wi : IntKind.i64.wrap ((i : Int) + 1) = (i : Int) + 1 := by simp [IntKind.wrap, IntKind.bits, IntKind.signed]; omega
              have cr : ∀ p : In wr, Calls Try.prog 12 #[valV k b n f s C len c, valV k' b' n' f' s' D len' c'] p.w fun e w' => e = .returned (.int .i64 (cmpV la[i] lb[i])) ∧ Below p.w.heap.size p.w w' :=
                fun p => ih (wsz la[i]) hsz la[i] rfl lb[i] _ _ p.w (hxr.keep p.h) (hyr.keep p.h)
              generalize la[i] = x at *
              generalize lb[i] = y at *
              generalize cmpV x y = cv at *
              have hst := Lib.hid hst
              clear hx hy hxr hyr hat hau hpa hpb ih hsz hpart
              by_cases hc0 : cv = 0
              · have hcb : (cv != 0) = false := by simpa using hc0
                go_wp2_with fail
                (refine wp_region_flow [] (by kernel_rfl) (by kernel_rfl) ?_; (repeat (((with_reducible refine wpFlow_steps ?_); intro K hK; go_simp; first | (with_reducible refine hK _ ?_; clear hK K) | (apply Exists.intro; (with_reducible refine ⟨fun _ => ⟨?_, _, rfl⟩, hK _ ?_⟩); (· exact rfl); clear hK K) | (apply Exists.intro; (with_reducible refine ⟨fun _ => ⟨_, rfl⟩, hK _ ?_⟩); clear hK K) | (apply Exists.intro; (with_reducible refine ⟨fun _ => ?_, hK _ ?_⟩); (· (with_reducible (first | exact cr _))); clear hK K)))); (refine wpFlow_nil ?_; rintro w1 ⟨q0, hq0⟩; have hb := In.h q0; rw [← hq0] at hb; clear hq0 q0; (first | ((with_reducible obtain ⟨p, hw''⟩ := In.of2 p hb); subst hw'') | (obtain ⟨p, hw''⟩ := In.of hb; subst hw'')); go_simp; intros))
                go_wp2_with fail
                refine ⟨⟨i + 1, rfl, hin.1, hin.2, ?_, hbr.trans (hb.mono hbr.size)⟩, by simp [intOf]; omega⟩
                show _ = _
                rw [hcm.out, hst.out, if_neg (by simp [hc0])]
              · have hcb : (cv != 0) = true := by simpa using hc0
                go_wp2_with fail
                (refine wp_region_flow [] (by kernel_rfl) (by kernel_rfl) ?_; (repeat (((with_reducible refine wpFlow_steps ?_); intro K hK; go_simp; first | (with_reducible refine hK _ ?_; clear hK K) | (apply Exists.intro; (with_reducible refine ⟨fun _ => ⟨?_, _, rfl⟩, hK _ ?_⟩); (· exact rfl); clear hK K) | (apply Exists.intro; (with_reducible refine ⟨fun _ => ⟨_, rfl⟩, hK _ ?_⟩); clear hK K) | (apply Exists.intro; (with_reducible refine ⟨fun _ => ?_, hK _ ?_⟩); (· (with_reducible (first | exact cr _))); clear hK K)))); (refine wpFlow_nil ?_; rintro w1 ⟨q0, hq0⟩; have hb := In.h q0; rw [← hq0] at hb; clear hq0 q0; (first | ((with_reducible obtain ⟨p, hw''⟩ := In.of2 p hb); subst hw'') | (obtain ⟨p, hw''⟩ := In.of hb; subst hw'')); go_simp; intros))
                go_wp2_with fail
                go_ret
                exact ⟨ret_int (by rw [hv, hcm.out, hst.out, if_pos hc0]), bkr.trans (hb.mono bkr.size)⟩
            · have hfin : cmpV (.mk kb ba na fa sa la) (.mk kb bb nb fb sb lb) = sgnI la.length lb.length := by
                rw [hv, hcm.out]
                exact cmpVL_end (by omega) hia hib
              have hfin := Lib.hid hfin
              have hs2 := Lib.hid (sgn_len la.length lb.length)
              clear hpa hpb ih hpart hv
              by_cases hil : i < la.length
              · have hla' : (i : Int) < la.length := by omega
                have hlb' : ¬ (i : Int) < lb.length := by omega
                go_wp2_with ((with_reducible refine (c3 _ _ _).mono ?_); rintro e w2 ⟨rfl, hb2⟩)
                go_ret
                exact ⟨ret_int (hs2.out.trans hfin.out.symm), bkr.trans (hb2.mono bkr.size)⟩
              · have hla' : ¬ (i : Int) < la.length := by omega
                go_wp2_with ((with_reducible refine (c3 _ _ _).mono ?_); rintro e w2 ⟨rfl, hb2⟩)
                go_ret
                exact ⟨ret_int (hs2.out.trans hfin.out.symm), bkr.trans (hb2.mono bkr.size)⟩
      · have hv : cmpV (.mk kb ba na fa sa la) (.mk kb bb nb fb sb lb) = sgnI na nb := by simp [cmpV, n1, n2, n3, n4, n5, n6]
        have hv2 := Lib.hid (sgn_dec na nb)
        have e1 : (kb == 1) = false := by simpa using n1
        have e2 : (kb == 2) = false := by simpa using n2
        have e3 : (kb == 3) = false := by simpa using n3
        have e4 : (kb == 4) = false := by simpa using n4
        have e5 : (kb == 5) = false := by simpa using n5
        have e6 : (kb == 6) = false := by simpa using n6
        (refine wp_region_flow [] (by kernel_rfl) (by kernel_rfl) ?_; (repeat (((with_reducible refine wpFlow_steps ?_); intro K hK; go_simp; first | (with_reducible refine hK _ ?_; clear hK K) | (apply Exists.intro; (with_reducible refine ⟨fun _ => ⟨?_, _, rfl⟩, hK _ ?_⟩); (· exact rfl); clear hK K) | (apply Exists.intro; (with_reducible refine ⟨fun _ => ⟨_, rfl⟩, hK _ ?_⟩); clear hK K) | (apply Exists.intro; (with_reducible refine ⟨fun _ => ?_, hK _ ?_⟩); (· (with_reducible (first | exact c1 _ | exact c2 _))); clear hK K)))); (refine wpFlow_nil ?_; rintro w1 ⟨q0, hq0⟩; have hb := In.h q0; rw [← hq0] at hb; clear hq0 q0; (first | ((with_reducible obtain ⟨p, hw''⟩ := In.of2 p hb); subst hw'') | (obtain ⟨p, hw''⟩ := In.of hb; subst hw'')); go_simp; intros))
        go_wp2_with ((with_reducible refine (c3 _ _ _).mono ?_); rintro e w2 ⟨rfl, hb2⟩; (first | ((with_reducible obtain ⟨p, hw''⟩ := In.of2 p hb2); subst hw'') | (obtain ⟨p, hw''⟩ := In.of hb2; subst hw'')))
        go_ret
        exact ⟨ret_int (hv2.out.trans hv.symm), p.back bk⟩
end Go.Proofs.Ytipjelkdbbhcpaa
