
/-
  PredTexts, walked.
-/
import Derived.Test.YtglcnnnjdkjggaaPrdT
import Derived.Shelf.Vars
set_option linter.unusedSimpArgs false
set_option linter.unusedVariables false
namespace Go.Proofs.Ytglcnnnjdkjggaa
open Go.RowKit

set_option maxRecDepth 8000 in
set_option maxHeartbeats 1000000 in
/-- pred.Holds where pred.holds is known -/
theorem pHoldsAny_c (op : List UInt8) (h : One op) (u : Value) (v x : Val) (A : Option Addr) (cap : Nat) (w : World) (r : Bool) (hv : Has w u v) (hp : Parts w A [x]) (hx : CheckV x = 0)
    (c2 : ∀ w', Below w.heap.size w w' → Calls Try.prog 17 #[predV op A 1 cap none 0 0, u] w' fun e w'' => e = .returned (.bool r) ∧ Below w'.heap.size w' w'') :
    Calls Try.prog 11 #[predV op A 1 cap none 0 0, u] w fun e w' => e = .returned (.bool r) ∧ Below w.heap.size w w' := by
  have c1 : ∀ w', Below w.heap.size w w' → Calls Try.prog 9 #[predV op A 1 cap none 0 0] w' fun e w'' => e = .returned (.bool true) ∧ Below w'.heap.size w' w'' := fun w' hb => by
    have := pCheck_c op h x A cap w' (hp.keep hb)
    rw [hx] at this
    exact this
  obtain ⟨B, capb, rfl, _⟩ := hv.open
  clear hv hp h hx
  go_enter Try.func11, Try.ntmps11
  go_upto_region 1 with fail
  obtain ⟨w1, hw1⟩ : ∃ w1, w1 = (w.alloc (.cells #[.string (st op), .slice A 1 cap, .slice none 0 0] 25)).alloc (.cells #[.int .i64 v.k, .bool v.b, .int .i64 v.n, .float .f64 v.f, .string (st v.s), .slice B v.l.length capb] 31) := ⟨_, rfl⟩
  have bk : Below w.heap.size w w1 := hw1 ▸ (below_alloc w _).alloc (by simp) _
  obtain ⟨x6, x0, x1, x2, x3, x4, x5⟩ : Box w1 (w.heap.size + 1) v.k v.b v.n v.f v.s B v.l.length capb := hw1 ▸ Box.new2 w v.k v.b v.n v.f v.s B v.l.length capb _ _
  have hx7 : w.heap.size + 1 < w1.heap.size := by rw [hw1]; simp
  have z0 : w1.cell? ⟨w.heap.size, 0, none⟩ = some (.string (st op)) := by rw [hw1]; simp [go_sem]
  have z1 : w1.cell? ⟨w.heap.size, 1, none⟩ = some (.slice A 1 cap) := by rw [hw1]; simp [go_sem]
  have z2 : w1.cell? ⟨w.heap.size, 2, none⟩ = some (.slice none 0 0) := by rw [hw1]; simp [go_sem]
  have z6 : w.heap.size < w1.heap.size := by omega
  rw [← hw1]
  clear hw1
  have d0 := c1 w1 bk
  have d2 := fun p : In w1 => c2 p.w (p.back bk)
  clear c1 c2
  go_wp2_with (first | ((with_reducible refine d0.mono ?_); rintro e w3 ⟨rfl, hb3⟩; (first | ((with_reducible obtain ⟨p, hw''⟩ := In.of2 p hb3); subst hw'') | (obtain ⟨p, hw''⟩ := In.of hb3; subst hw''))) | ((with_reducible refine (d2 _).mono ?_); rintro e w4 ⟨rfl, hb4⟩; (first | ((with_reducible obtain ⟨p, hw''⟩ := In.of2 p hb4); subst hw'') | (obtain ⟨p, hw''⟩ := In.of hb4; subst hw''))))
  go_ret
  exact ⟨rfl, p.back bk⟩
set_option maxRecDepth 8000 in
set_option maxHeartbeats 1000000 in
/-- the law's own closure: a predicate of one flat value is made, and asked -/
theorem one_c (op : List UInt8) (h : One op) (k : Int) (b : Bool) (n : Int) (f : Nat) (s : List UInt8) (k' : Int) (b' : Bool) (n' : Int) (f' : Nat) (s' : List UInt8) (w : World) (r : Bool)
    (hx : ∀ w, Has w (valV k b n f s none 0 0) (.mk k b n f s [])) (hy : ∀ w, Has w (valV k' b' n' f' s' none 0 0) (.mk k' b' n' f' s' [])) (hc : CheckV (.mk k b n f s []) = 0)
    (ch : ∀ (A : Option Addr) (w' : World), Below w.heap.size w w' → Parts w' A [.mk k b n f s []] → Calls Try.prog 17 #[predV op A 1 1 none 0 0, valV k' b' n' f' s' none 0 0] w' fun e w'' => e = .returned (.bool r) ∧ Below w'.heap.size w' w'') :
    Calls Try.prog 14 #[.string (st op), valV k b n f s none 0 0, valV k' b' n' f' s' none 0 0] w fun e w' => e = .returned (.bool r) ∧ Below w.heap.size w w' := by
  have cH : ∀ (g : Nat) (w' : World), Below w.heap.size w w' → Box w' g k b n f s none 0 0 → Calls Try.prog 11 #[predV op (some ⟨g, 0, none⟩) 1 1 none 0 0, valV k' b' n' f' s' none 0 0] w' fun e w'' => e = .returned (.bool r) ∧ Below w'.heap.size w' w'' := fun g w' hb hbox =>
    pHoldsAny_c op h _ (.mk k' b' n' f' s' []) (.mk k b n f s []) _ 1 w' r (hy w') (parts1 hbox (hx w')) hc fun w'' hb2 => ch _ w'' (hb.trans (hb2.mono hb.size)) ((parts1 hbox (hx w')).keep hb2)
  clear h hx hy hc ch
  go_enter Try.func14, Try.ntmps14
  go_upto_region 1 with fail
  obtain ⟨w1, hw1⟩ : ∃ w1, w1 = (w.alloc (.cells #[.int .i64 k, .bool b, .int .i64 n, .float .f64 f, .string (st s), .slice none 0 0] 31)).alloc (.cells #[.int .i64 k', .bool b', .int .i64 n', .float .f64 f', .string (st s'), .slice none 0 0] 31) := ⟨_, rfl⟩
  have bk : Below w.heap.size w w1 := hw1 ▸ (below_alloc w _).alloc (by simp) _
  obtain ⟨x6, x0, x1, x2, x3, x4, x5⟩ : Box w1 w.heap.size k b n f s none 0 0 := hw1 ▸ (Box.new w k b n f s none 0 0 _).keep (below_alloc _ _)
  obtain ⟨y6, y0, y1, y2, y3, y4, y5⟩ : Box w1 (w.heap.size + 1) k' b' n' f' s' none 0 0 := hw1 ▸ Box.new2 w k' b' n' f' s' none 0 0 _ _
  rw [← hw1]
  clear hw1
  have ba := below_alloc w1 (.cells #[.int .i64 k, .bool b, .int .i64 n, .float .f64 f, .string (st s), .slice none 0 0] 31)
  have d1 := cH w1.heap.size _ (bk.trans (ba.mono bk.size)) (Box.new w1 k b n f s none 0 0 31)
  clear cH
  have bk2 := bk.trans (ba.mono bk.size)
  clear ba
  go_wp2_with ((with_reducible refine d1.mono ?_); rintro e w2 ⟨rfl, hb2⟩)
  go_ret
  exact ⟨rfl, bk2.trans (hb2.mono bk2.size)⟩

theorem mid_eq (a b c : List UInt8) : (b == a ++ b ++ c) = (a.isEmpty && c.isEmpty) := by
  rw [Bool.eq_iff_iff]
  simp only [beq_iff_eq, Bool.and_eq_true, List.isEmpty_iff]
  constructor
  · intro h
    have := congrArg List.length h
    simp only [List.length_append] at this
    exact ⟨List.eq_nil_of_length_eq_zero (by omega), List.eq_nil_of_length_eq_zero (by omega)⟩
  · rintro ⟨rfl, rfl⟩
    simp

set_option maxRecDepth 8000 in
set_option maxHeartbeats 4000000 in
theorem predTexts_walk (a b c : List UInt8) (w : World) (hsh : w.ShapedOpen Try.prog) (ha : a.length ≤ maxLen) (hb : b.length ≤ maxLen) (hc : c.length ≤ maxLen) :
    Calls Try.prog 6 #[.string (st a), .string (st b), .string (st c)] w fun e w' => e = .returned (.bool true) ∧ Below w.heap.size w w' := by
  have hM : ∃ m, w.cell? ⟨maxG, 0, none⟩ = some (.int .i64 m) := Go.Proofs.cell_of_shapedOpen_int (zero := #[.int .i64 0]) (t := 3) hsh (of_decide_eq_true (by kernel_rfl)) (by kernel_rfl) rfl (by kernel_rfl) (by kernel_rfl) Try.underlying3
  obtain ⟨m, hm⟩ := hM
  clear hsh
  unfold maxLen at ha hb hc
  have aw := fun w => awake_c w
  by_cases hl : a.length ≤ 100 ∧ b.length ≤ 100 ∧ c.length ≤ 100
  · obtain ⟨la, lb, lc⟩ := hl
    have hg := World.block_lt_of_cell? w ⟨maxG, 0, none⟩ hm
    have hm' : ∀ w', Below w.heap.size w w' → w'.cell? ⟨maxG, 0, none⟩ = some (.int .i64 m) := fun w' h => (h.cell (p := ⟨maxG, 0, none⟩) hg).trans hm
    have i2 : I64 (2 : Int) := ⟨by omega, by omega⟩
    have i4 : I64 (4 : Int) := ⟨by omega, by omega⟩
    have i1 : I64 (1 : Int) := ⟨by omega, by omega⟩
    have i0 : I64 (0 : Int) := ⟨by omega, by omega⟩
    have u0 : U64 0 := ⟨by omega⟩
    have lv : (a ++ b ++ c).length ≤ 300 := by simp only [List.length_append]; omega
    have hT : ∀ (s : List UInt8), s.length ≤ 300 → ∀ w, Has w (valV 4 false 0 0 s none 0 0) (texV s) := fun s h w => flat_has w i4 i0 u0 (by omega)
    have hI : ∀ w, Has w (valV 2 false 1 0 [] none 0 0) (intV 1) := fun w => flat_has w i2 i1 u0 (by simp)
    have oC : One [99, 111, 110, 116, 97, 105, 110, 105, 110, 103] := by unfold One; simp
    have oS : One [115, 116, 97, 114, 116, 105, 110, 103, 87, 105, 116, 104] := by unfold One; simp
    have oE : One [101, 110, 100, 105, 110, 103, 87, 105, 116, 104] := by unfold One; simp
    have o6 : Six [101, 113] := by unfold Six; simp
    have kC : ∀ s, s.length ≤ 300 → CheckV (texV s) = 0 := fun s h => check_tex s (by omega)
    have eqs : ∀ s t : List UInt8, eqV (texV s) (texV t) = (s == t) := fun s t => by
      unfold eqV
      rw [eq_cmp]
      simp [cmpV, rcls]
      rfl
    have k1 : ∀ w', Below w.heap.size w w' → Calls Try.prog 14 #[.string (st [99, 111, 110, 116, 97, 105, 110, 105, 110, 103]), valV 4 false 0 0 b none 0 0, valV 4 false 0 0 (a ++ b ++ c) none 0 0] w' fun e w'' => e = .returned (.bool true) ∧ Below w'.heap.size w' w'' := fun w' hb =>
      one_c [99, 111, 110, 116, 97, 105, 110, 105, 110, 103] oC 4 false 0 0 b 4 false 0 0 (a ++ b ++ c) w' true (hT b (by omega)) (hT (a ++ b ++ c) lv) (kC _ (by omega)) fun A w'' h2 hp => by
        have := holds_has_c _ (texV (a ++ b ++ c)) (texV b) A 1 w'' ((hT (a ++ b ++ c) lv) w'') hp (Nat.le_trans lv (by omega)) m (hm' _ (hb.trans (h2.mono hb.size)))
        dsimp only [Val.k, Val.s] at this; rw [has_mid] at this
        exact this
    have k2 : ∀ w', Below w.heap.size w w' → Calls Try.prog 14 #[.string (st [115, 116, 97, 114, 116, 105, 110, 103, 87, 105, 116, 104]), valV 4 false 0 0 a none 0 0, valV 4 false 0 0 (a ++ b ++ c) none 0 0] w' fun e w'' => e = .returned (.bool true) ∧ Below w'.heap.size w' w'' := fun w' hb =>
      one_c [115, 116, 97, 114, 116, 105, 110, 103, 87, 105, 116, 104] oS 4 false 0 0 a 4 false 0 0 (a ++ b ++ c) w' true (hT a (by omega)) (hT (a ++ b ++ c) lv) (kC _ (by omega)) fun A w'' h2 hp => by
        have := holds_start_c _ (texV (a ++ b ++ c)) (texV a) A 1 w'' ((hT (a ++ b ++ c) lv) w'') hp (Nat.le_trans lv (by omega))
        dsimp only [Val.k, Val.s] at this; rw [has_first] at this
        exact this
    have k3 : ∀ w', Below w.heap.size w w' → Calls Try.prog 14 #[.string (st [101, 110, 100, 105, 110, 103, 87, 105, 116, 104]), valV 4 false 0 0 c none 0 0, valV 4 false 0 0 (a ++ b ++ c) none 0 0] w' fun e w'' => e = .returned (.bool true) ∧ Below w'.heap.size w' w'' := fun w' hb =>
      one_c [101, 110, 100, 105, 110, 103, 87, 105, 116, 104] oE 4 false 0 0 c 4 false 0 0 (a ++ b ++ c) w' true (hT c (by omega)) (hT (a ++ b ++ c) lv) (kC _ (by omega)) fun A w'' h2 hp => by
        have := holds_end_c _ (texV (a ++ b ++ c)) (texV c) A 1 w'' ((hT (a ++ b ++ c) lv) w'') hp (Nat.le_trans lv (by omega))
        dsimp only [Val.k, Val.s] at this; rw [has_last] at this
        exact this
    have k4 : ∀ w', Below w.heap.size w w' → Calls Try.prog 14 #[.string (st [99, 111, 110, 116, 97, 105, 110, 105, 110, 103]), valV 4 false 0 0 (a ++ b ++ c) none 0 0, valV 4 false 0 0 b none 0 0] w' fun e w'' => e = .returned (.bool (a.isEmpty && c.isEmpty)) ∧ Below w'.heap.size w' w'' := fun w' hb =>
      one_c [99, 111, 110, 116, 97, 105, 110, 105, 110, 103] oC 4 false 0 0 (a ++ b ++ c) 4 false 0 0 b w' (a.isEmpty && c.isEmpty) (hT (a ++ b ++ c) lv) (hT b (by omega)) (kC _ lv) fun A w'' h2 hp => by
        have := holds_has_c _ (texV b) (texV (a ++ b ++ c)) A 1 w'' ((hT b (by omega)) w'') hp (Nat.le_trans lb (by omega)) m (hm' _ (hb.trans (h2.mono hb.size)))
        dsimp only [Val.k, Val.s] at this; rw [has_whole] at this
        exact this
    have k5 : ∀ w', Below w.heap.size w w' → Calls Try.prog 14 #[.string (st [99, 111, 110, 116, 97, 105, 110, 105, 110, 103]), valV 2 false 1 0 [] none 0 0, valV 4 false 0 0 (a ++ b ++ c) none 0 0] w' fun e w'' => e = .returned (.bool false) ∧ Below w'.heap.size w' w'' := fun w' hb =>
      one_c [99, 111, 110, 116, 97, 105, 110, 105, 110, 103] oC 2 false 1 0 [] 4 false 0 0 (a ++ b ++ c) w' false hI (hT (a ++ b ++ c) lv) (check_int 1) fun A w'' h2 hp => by
        have := holds_has_c _ (texV (a ++ b ++ c)) (intV 1) A 1 w'' ((hT (a ++ b ++ c) lv) w'') hp (Nat.le_trans lv (by omega)) m (hm' _ (hb.trans (h2.mono hb.size)))
        dsimp only [Val.k, Val.s] at this
        exact this
    have k6 : ∀ w', Below w.heap.size w w' → Calls Try.prog 14 #[.string (st [115, 116, 97, 114, 116, 105, 110, 103, 87, 105, 116, 104]), valV 4 false 0 0 b none 0 0, valV 2 false 1 0 [] none 0 0] w' fun e w'' => e = .returned (.bool false) ∧ Below w'.heap.size w' w'' := fun w' hb =>
      one_c [115, 116, 97, 114, 116, 105, 110, 103, 87, 105, 116, 104] oS 4 false 0 0 b 2 false 1 0 [] w' false (hT b (by omega)) hI (kC _ (by omega)) fun A w'' h2 hp => by
        have := holds_start_c _ (intV 1) (texV b) A 1 w'' (hI w'') hp (by simp [Val.s])
        dsimp only [Val.k, Val.s] at this
        exact this
    have k7 : ∀ w', Below w.heap.size w w' → Calls Try.prog 14 #[.string (st [101, 113]), valV 4 false 0 0 (a ++ b ++ c) none 0 0, valV 4 false 0 0 (a ++ b ++ c) none 0 0] w' fun e w'' => e = .returned (.bool true) ∧ Below w'.heap.size w' w'' := fun w' hb =>
      one_c [101, 113] o6.one 4 false 0 0 (a ++ b ++ c) 4 false 0 0 (a ++ b ++ c) w' true (hT (a ++ b ++ c) lv) (hT (a ++ b ++ c) lv) (kC _ lv) fun A w'' h2 hp => by
        have := holds1_c [101, 113] o6 _ (texV (a ++ b ++ c)) (texV (a ++ b ++ c)) A 1 w'' ((hT (a ++ b ++ c) lv) w'') hp
        rw [show tellV [101, 113] (texV (a ++ b ++ c)) (texV (a ++ b ++ c)) = true by simp [tellV, eqs]] at this
        exact this
    have k8 : ∀ w', Below w.heap.size w w' → Calls Try.prog 14 #[.string (st [101, 113]), valV 4 false 0 0 (a ++ b ++ c) none 0 0, valV 4 false 0 0 b none 0 0] w' fun e w'' => e = .returned (.bool (a.isEmpty && c.isEmpty)) ∧ Below w'.heap.size w' w'' := fun w' hb =>
      one_c [101, 113] o6.one 4 false 0 0 (a ++ b ++ c) 4 false 0 0 b w' (a.isEmpty && c.isEmpty) (hT (a ++ b ++ c) lv) (hT b (by omega)) (kC _ lv) fun A w'' h2 hp => by
        have := holds1_c [101, 113] o6 _ (texV b) (texV (a ++ b ++ c)) A 1 w'' ((hT b (by omega)) w'') hp
        rw [show tellV [101, 113] (texV b) (texV (a ++ b ++ c)) = (a.isEmpty && c.isEmpty) by rw [tellV, if_pos rfl, eqs, mid_eq]] at this
        exact this
    clear hT hI oC oS oE o6 kC eqs hm' hg hm ha hb hc i2 i4 i1 i0 u0
    have gA : (a == []) = a.isEmpty := by cases a <;> rfl
    have gC : (c == []) = c.isEmpty := by cases c <;> rfl
    have n1 : ¬ (100 : Int) < a.length := by omega
    have n2 : ¬ (100 : Int) < b.length := by omega
    have n3 : ¬ (100 : Int) < c.length := by omega
    have n4 : ¬ 9223372036854775807 < a.length + b.length := by omega
    have n5 : ¬ 9223372036854775807 < a.length + b.length + c.length := by omega
    have n6 : ¬ 9223372036854775807 < a.length + (b.length + c.length) := by omega
    have hx : st a ++ st b ++ st c = st (a ++ b ++ c) := by simp [st, ByteArray.ext_iff]
    generalize a ++ b ++ c = V at *
    clear la lb lc lv
    go_enter Try.func6, Try.ntmps6
    go_upto_region 7 with fail
    obtain ⟨w1, hw1⟩ : ∃ w1, w1 = ((((w.alloc (.cells #[.int .i64 4, .bool false, .int .i64 0, .float .f64 0, .string (st V), .slice none 0 0] 31)).alloc (.cells #[.int .i64 4, .bool false, .int .i64 0, .float .f64 0, .string (st b), .slice none 0 0] 31)).alloc (.cells #[.int .i64 2, .bool false, .int .i64 1, .float .f64 0, .string ⟨#[]⟩, .slice none 0 0] 31)).alloc (.cells #[.int .i64 4, .bool false, .int .i64 0, .float .f64 0, .string (st a), .slice none 0 0] 31)).alloc (.cells #[.int .i64 4, .bool false, .int .i64 0, .float .f64 0, .string (st c), .slice none 0 0] 31) := ⟨_, rfl⟩
    have bk : Below w.heap.size w w1 := hw1 ▸ ((((below_alloc w _).alloc (by simp) _).alloc (by simp <;> omega) _).alloc (by simp <;> omega) _).alloc (by simp <;> omega) _
    have b1 : Box w1 w.heap.size 4 false 0 0 V none 0 0 := by constructor <;> (rw [hw1]; simp [go_sem]) <;> rfl
    have b2 : Box w1 (w.heap.size + 1) 4 false 0 0 b none 0 0 := by constructor <;> (rw [hw1]; simp [go_sem]) <;> rfl
    have b3 : Box w1 (w.heap.size + 1 + 1) 2 false 1 0 [] none 0 0 := by constructor <;> (rw [hw1]; simp [go_sem]) <;> rfl
    have b4 : Box w1 (w.heap.size + 1 + 1 + 1) 4 false 0 0 a none 0 0 := by constructor <;> (rw [hw1]; simp [go_sem]) <;> rfl
    have b5 : Box w1 (w.heap.size + 1 + 1 + 1 + 1) 4 false 0 0 c none 0 0 := by constructor <;> (rw [hw1]; simp [go_sem]) <;> rfl
    rw [← hw1]
    clear hw1
    have d1 := fun p : In w1 => k1 p.w (p.back bk)
    have d2 := fun p : In w1 => k2 p.w (p.back bk)
    have d3 := fun p : In w1 => k3 p.w (p.back bk)
    have d4 := fun p : In w1 => k4 p.w (p.back bk)
    have d5 := fun p : In w1 => k5 p.w (p.back bk)
    have d6 := fun p : In w1 => k6 p.w (p.back bk)
    have d7 := fun p : In w1 => k7 p.w (p.back bk)
    have d8 := fun p : In w1 => k8 p.w (p.back bk)
    clear k1 k2 k3 k4 k5 k6 k7 k8 hx n1 n2 n3 n4 n5 n6
    obtain ⟨x6, x0, x1, x2, x3, x4, x5⟩ := b1
    obtain ⟨y6, y0, y1, y2, y3, y4, y5⟩ := b2
    obtain ⟨z6, z0, z1, z2, z3, z4, z5⟩ := b3
    obtain ⟨u6, u0, u1, u2, u3, u4, u5⟩ := b4
    obtain ⟨v6, v0, v1, v2, v3, v4, v5⟩ := b5
    try simp only [List.append_eq, List.cons_append, List.nil_append]
    cases hA : a.isEmpty
    · rw [hA] at gA d4 d8
      clear hA gC
      go_wp2_with (first | ((with_reducible refine (aw _).mono ?_); rintro e w2 ⟨rfl, hb2⟩; (first | ((with_reducible obtain ⟨p, hw''⟩ := In.of2 p hb2); subst hw'') | (obtain ⟨p, hw''⟩ := In.of hb2; subst hw''))) | ((with_reducible refine (d1 _).mono ?_); rintro e w3 ⟨rfl, hb3⟩; (first | ((with_reducible obtain ⟨p, hw''⟩ := In.of2 p hb3); subst hw'') | (obtain ⟨p, hw''⟩ := In.of hb3; subst hw''))) | ((with_reducible refine (d2 _).mono ?_); rintro e w3 ⟨rfl, hb3⟩; (first | ((with_reducible obtain ⟨p, hw''⟩ := In.of2 p hb3); subst hw'') | (obtain ⟨p, hw''⟩ := In.of hb3; subst hw''))) | ((with_reducible refine (d3 _).mono ?_); rintro e w3 ⟨rfl, hb3⟩; (first | ((with_reducible obtain ⟨p, hw''⟩ := In.of2 p hb3); subst hw'') | (obtain ⟨p, hw''⟩ := In.of hb3; subst hw''))) | ((with_reducible refine (d4 _).mono ?_); rintro e w3 ⟨rfl, hb3⟩; (first | ((with_reducible obtain ⟨p, hw''⟩ := In.of2 p hb3); subst hw'') | (obtain ⟨p, hw''⟩ := In.of hb3; subst hw''))) | ((with_reducible refine (d5 _).mono ?_); rintro e w3 ⟨rfl, hb3⟩; (first | ((with_reducible obtain ⟨p, hw''⟩ := In.of2 p hb3); subst hw'') | (obtain ⟨p, hw''⟩ := In.of hb3; subst hw''))) | ((with_reducible refine (d6 _).mono ?_); rintro e w3 ⟨rfl, hb3⟩; (first | ((with_reducible obtain ⟨p, hw''⟩ := In.of2 p hb3); subst hw'') | (obtain ⟨p, hw''⟩ := In.of hb3; subst hw''))) | ((with_reducible refine (d7 _).mono ?_); rintro e w3 ⟨rfl, hb3⟩; (first | ((with_reducible obtain ⟨p, hw''⟩ := In.of2 p hb3); subst hw'') | (obtain ⟨p, hw''⟩ := In.of hb3; subst hw''))) | ((with_reducible refine (d8 _).mono ?_); rintro e w3 ⟨rfl, hb3⟩; (first | ((with_reducible obtain ⟨p, hw''⟩ := In.of2 p hb3); subst hw'') | (obtain ⟨p, hw''⟩ := In.of hb3; subst hw''))))
      go_ret
      exact ⟨rfl, p.back bk⟩
    · rw [hA] at gA d4 d8
      clear hA
      cases hC : c.isEmpty
      · rw [hC] at gC d4 d8
        clear hC
        go_wp2_with (first | ((with_reducible refine (aw _).mono ?_); rintro e w2 ⟨rfl, hb2⟩; (first | ((with_reducible obtain ⟨p, hw''⟩ := In.of2 p hb2); subst hw'') | (obtain ⟨p, hw''⟩ := In.of hb2; subst hw''))) | ((with_reducible refine (d1 _).mono ?_); rintro e w3 ⟨rfl, hb3⟩; (first | ((with_reducible obtain ⟨p, hw''⟩ := In.of2 p hb3); subst hw'') | (obtain ⟨p, hw''⟩ := In.of hb3; subst hw''))) | ((with_reducible refine (d2 _).mono ?_); rintro e w3 ⟨rfl, hb3⟩; (first | ((with_reducible obtain ⟨p, hw''⟩ := In.of2 p hb3); subst hw'') | (obtain ⟨p, hw''⟩ := In.of hb3; subst hw''))) | ((with_reducible refine (d3 _).mono ?_); rintro e w3 ⟨rfl, hb3⟩; (first | ((with_reducible obtain ⟨p, hw''⟩ := In.of2 p hb3); subst hw'') | (obtain ⟨p, hw''⟩ := In.of hb3; subst hw''))) | ((with_reducible refine (d4 _).mono ?_); rintro e w3 ⟨rfl, hb3⟩; (first | ((with_reducible obtain ⟨p, hw''⟩ := In.of2 p hb3); subst hw'') | (obtain ⟨p, hw''⟩ := In.of hb3; subst hw''))) | ((with_reducible refine (d5 _).mono ?_); rintro e w3 ⟨rfl, hb3⟩; (first | ((with_reducible obtain ⟨p, hw''⟩ := In.of2 p hb3); subst hw'') | (obtain ⟨p, hw''⟩ := In.of hb3; subst hw''))) | ((with_reducible refine (d6 _).mono ?_); rintro e w3 ⟨rfl, hb3⟩; (first | ((with_reducible obtain ⟨p, hw''⟩ := In.of2 p hb3); subst hw'') | (obtain ⟨p, hw''⟩ := In.of hb3; subst hw''))) | ((with_reducible refine (d7 _).mono ?_); rintro e w3 ⟨rfl, hb3⟩; (first | ((with_reducible obtain ⟨p, hw''⟩ := In.of2 p hb3); subst hw'') | (obtain ⟨p, hw''⟩ := In.of hb3; subst hw''))) | ((with_reducible refine (d8 _).mono ?_); rintro e w3 ⟨rfl, hb3⟩; (first | ((with_reducible obtain ⟨p, hw''⟩ := In.of2 p hb3); subst hw'') | (obtain ⟨p, hw''⟩ := In.of hb3; subst hw''))))
        go_ret
        exact ⟨rfl, p.back bk⟩
      · rw [hC] at gC d4 d8
        clear hC
        go_wp2_with (first | ((with_reducible refine (aw _).mono ?_); rintro e w2 ⟨rfl, hb2⟩; (first | ((with_reducible obtain ⟨p, hw''⟩ := In.of2 p hb2); subst hw'') | (obtain ⟨p, hw''⟩ := In.of hb2; subst hw''))) | ((with_reducible refine (d1 _).mono ?_); rintro e w3 ⟨rfl, hb3⟩; (first | ((with_reducible obtain ⟨p, hw''⟩ := In.of2 p hb3); subst hw'') | (obtain ⟨p, hw''⟩ := In.of hb3; subst hw''))) | ((with_reducible refine (d2 _).mono ?_); rintro e w3 ⟨rfl, hb3⟩; (first | ((with_reducible obtain ⟨p, hw''⟩ := In.of2 p hb3); subst hw'') | (obtain ⟨p, hw''⟩ := In.of hb3; subst hw''))) | ((with_reducible refine (d3 _).mono ?_); rintro e w3 ⟨rfl, hb3⟩; (first | ((with_reducible obtain ⟨p, hw''⟩ := In.of2 p hb3); subst hw'') | (obtain ⟨p, hw''⟩ := In.of hb3; subst hw''))) | ((with_reducible refine (d4 _).mono ?_); rintro e w3 ⟨rfl, hb3⟩; (first | ((with_reducible obtain ⟨p, hw''⟩ := In.of2 p hb3); subst hw'') | (obtain ⟨p, hw''⟩ := In.of hb3; subst hw''))) | ((with_reducible refine (d5 _).mono ?_); rintro e w3 ⟨rfl, hb3⟩; (first | ((with_reducible obtain ⟨p, hw''⟩ := In.of2 p hb3); subst hw'') | (obtain ⟨p, hw''⟩ := In.of hb3; subst hw''))) | ((with_reducible refine (d6 _).mono ?_); rintro e w3 ⟨rfl, hb3⟩; (first | ((with_reducible obtain ⟨p, hw''⟩ := In.of2 p hb3); subst hw'') | (obtain ⟨p, hw''⟩ := In.of hb3; subst hw''))) | ((with_reducible refine (d7 _).mono ?_); rintro e w3 ⟨rfl, hb3⟩; (first | ((with_reducible obtain ⟨p, hw''⟩ := In.of2 p hb3); subst hw'') | (obtain ⟨p, hw''⟩ := In.of hb3; subst hw''))) | ((with_reducible refine (d8 _).mono ?_); rintro e w3 ⟨rfl, hb3⟩; (first | ((with_reducible obtain ⟨p, hw''⟩ := In.of2 p hb3); subst hw'') | (obtain ⟨p, hw''⟩ := In.of hb3; subst hw''))))
        go_ret
        exact ⟨rfl, p.back bk⟩
  · go_enter Try.func6, Try.ntmps6
    by_cases h1 : 100 < a.length
    · have h1' : (100 : Int) < a.length := by omega
      go_wp2_with ((with_reducible refine (aw _).mono ?_); rintro e w5 ⟨rfl, hb5⟩; (first | ((with_reducible obtain ⟨p, hw''⟩ := In.of2 p hb5); subst hw'') | (obtain ⟨p, hw''⟩ := In.of hb5; subst hw'')))
      go_ret
      exact ⟨rfl, p.back (Below.refl _ _)⟩
    · have h1' : ¬ (100 : Int) < a.length := by omega
      by_cases h2 : 100 < b.length
      · have h2' : (100 : Int) < b.length := by omega
        go_wp2_with ((with_reducible refine (aw _).mono ?_); rintro e w5 ⟨rfl, hb5⟩; (first | ((with_reducible obtain ⟨p, hw''⟩ := In.of2 p hb5); subst hw'') | (obtain ⟨p, hw''⟩ := In.of hb5; subst hw'')))
        go_ret
        exact ⟨rfl, p.back (Below.refl _ _)⟩
      · have h2' : ¬ (100 : Int) < b.length := by omega
        have h3' : (100 : Int) < c.length := by omega
        go_wp2_with ((with_reducible refine (aw _).mono ?_); rintro e w5 ⟨rfl, hb5⟩; (first | ((with_reducible obtain ⟨p, hw''⟩ := In.of2 p hb5); subst hw'') | (obtain ⟨p, hw''⟩ := In.of hb5; subst hw'')))
        go_ret
        exact ⟨rfl, p.back (Below.refl _ _)⟩
end Go.Proofs.Ytglcnnnjdkjggaa
