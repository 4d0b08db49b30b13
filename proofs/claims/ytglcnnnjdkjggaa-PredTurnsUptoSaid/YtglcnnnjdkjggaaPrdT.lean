
/-
  Predicates of texts.
-/
import Derived.Test.YtglcnnnjdkjggaaPrdF
import Derived.Test.YtglcnnnjdkjggaaShelf
set_option linter.unusedSimpArgs false
set_option linter.unusedVariables false
namespace Go.Proofs.Ytglcnnnjdkjggaa
open Go.RowKit

/-- the block of the variable MaxLen -/
abbrev maxG : Nat := 1
theorem contains_infix : ∀ s sub : List UInt8, Go.Lib.contains s sub = decide (sub <:+: s)
  | [], sub => by
    unfold Go.Lib.contains Go.Lib.index
    cases sub <;> simp
  | b :: l, sub => by
    have ih := contains_infix l sub
    have hge := Go.Lib.index_ge l sub
    unfold Go.Lib.contains at ih ⊢
    rw [Go.Lib.index]
    rw [decide_eq_decide] at ih ⊢
    rw [List.infix_cons_iff, ← ih]
    by_cases h : sub.isPrefixOf (b :: l) = true
    · rw [if_pos h]
      have := List.isPrefixOf_iff_prefix.1 h
      simp [this]
    · rw [if_neg h]
      have h' : ¬ sub <+: (b :: l) := fun e => h (List.isPrefixOf_iff_prefix.2 e)
      simp only [h', false_or]
      by_cases h1 : Go.Lib.index l sub = -1
      · rw [if_pos (by simpa using h1), h1]
      · rw [if_neg (by simpa using h1)]
        omega
theorem has_mid (a b c : List UInt8) : Go.Lib.contains (a ++ b ++ c) b = true := by
  rw [contains_infix]
  exact decide_eq_true ⟨a, c, rfl⟩
theorem has_whole (a b c : List UInt8) : Go.Lib.contains b (a ++ b ++ c) = (a.isEmpty && c.isEmpty) := by
  rw [contains_infix, Bool.eq_iff_iff]
  simp only [decide_eq_true_eq, Bool.and_eq_true, List.isEmpty_iff]
  constructor
  · intro h
    have := h.length_le
    simp only [List.length_append] at this
    exact ⟨List.eq_nil_of_length_eq_zero (by omega), List.eq_nil_of_length_eq_zero (by omega)⟩
  · rintro ⟨rfl, rfl⟩
    simp
theorem has_first (a b c : List UInt8) : Go.Lib.hasPrefix (a ++ b ++ c) a = true := by
  unfold Go.Lib.hasPrefix
  rw [List.isPrefixOf_iff_prefix, List.append_assoc]
  exact List.prefix_append _ _
theorem has_last (a b c : List UInt8) : Go.Lib.hasSuffix (a ++ b ++ c) c = true := by
  unfold Go.Lib.hasSuffix
  rw [List.isSuffixOf_iff_suffix]
  exact List.suffix_append _ _
theorem start_c (s t : List UInt8) (w : World) (hs : s.length ≤ 4000000000) : Calls Try.prog 47 #[.string (st s), .string (st t)] w fun e w' => e = .returned (.bool (Go.Lib.hasPrefix s t)) ∧ Below w.heap.size w w' :=
  (Try.strings_HasPrefix (st s) (st t) w).mono fun e w' h => by obtain ⟨h1, rfl⟩ := h; exact ⟨h1, Below.refl _ _⟩
set_option maxRecDepth 8000 in
set_option maxHeartbeats 1000000 in
theorem text_start_c (k : Int) (b : Bool) (n : Int) (f : Nat) (s : List UInt8) (B : Option Addr) (len c : Nat) (k' : Int) (b' : Bool) (n' : Int) (f' : Nat) (s' : List UInt8) (B' : Option Addr) (len' c' : Nat) (w : World) (hs : s.length ≤ 4000000000) :
    Calls Try.prog 37 #[.string (st [115, 116, 97, 114, 116, 105, 110, 103, 87, 105, 116, 104]), valV k b n f s B len c, valV k' b' n' f' s' B' len' c'] w fun e w' => e = .returned (.bool (k == 4 && k' == 4 && Go.Lib.hasPrefix s s')) ∧ Below w.heap.size w w' := by
  have cf : ∀ w', Below w.heap.size w w' → Calls Try.prog 47 #[.string (st s), .string (st s')] w' fun e w'' => e = .returned (.bool (Go.Lib.hasPrefix s s')) ∧ Below w'.heap.size w' w'' := fun w' hb => start_c s s' w' hs
  generalize Go.Lib.hasPrefix s s' = r at *
  go_enter Try.func37, Try.ntmps37
  go_upto_region 1 with fail
  obtain ⟨w1, hw1⟩ : ∃ w1, w1 = (w.alloc (.cells #[.int .i64 k, .bool b, .int .i64 n, .float .f64 f, .string (st s), .slice B len c] 31)).alloc (.cells #[.int .i64 k', .bool b', .int .i64 n', .float .f64 f', .string (st s'), .slice B' len' c'] 31) := ⟨_, rfl⟩
  have bk : Below w.heap.size w w1 := hw1 ▸ (below_alloc w _).alloc (by simp) _
  obtain ⟨x6, x0, x1, x2, x3, x4, x5⟩ : Box w1 w.heap.size k b n f s B len c := hw1 ▸ (Box.new w k b n f s B len c _).keep (below_alloc _ _)
  obtain ⟨y6, y0, y1, y2, y3, y4, y5⟩ : Box w1 (w.heap.size + 1) k' b' n' f' s' B' len' c' := hw1 ▸ Box.new2 w k' b' n' f' s' B' len' c' _ _
  rw [← hw1]
  clear hw1
  have d1 := cf w1 bk
  clear cf
  by_cases h4 : k = 4
  · subst h4
    by_cases h5 : k' = 4
    · subst h5
      go_wp2_with ((with_reducible refine d1.mono ?_); rintro e w2 ⟨rfl, hb2⟩)
      go_ret
      exact ⟨ret_bool (by simp), bk.trans (hb2.mono bk.size)⟩
    · have h5' : (k' != 4) = true := by simpa using h5
      have h5'' : (k' == 4) = false := by simpa using h5
      go_wp2_with fail
      go_ret
      exact ⟨ret_bool (by rw [h5'']; simp), bk⟩
  · have h4' : (k != 4) = true := by simpa using h4
    have h4'' : (k == 4) = false := by simpa using h4
    go_wp2_with fail
    go_ret
    exact ⟨ret_bool (by rw [h4'']; simp), bk⟩
set_option maxRecDepth 8000 in
set_option maxHeartbeats 2000000 in
theorem holds_start_c (u : Value) (v x : Val) (A : Option Addr) (cap : Nat) (w : World) (hv : Has w u v) (hp : Parts w A [x]) (hs : v.s.length ≤ 4000000000) :
    Calls Try.prog 17 #[predV [115, 116, 97, 114, 116, 105, 110, 103, 87, 105, 116, 104] A 1 cap none 0 0, u] w fun e w' => e = .returned (.bool (v.k == 4 && x.k == 4 && Go.Lib.hasPrefix v.s x.s)) ∧ Below w.heap.size w w' := by
  obtain ⟨ad, k', b', n', f', s', B', len', c', had, hx, hat⟩ := hp 0 x rfl
  subst had
  rw [show ad.add (0 * 6) = ad from rfl] at hat
  obtain ⟨B, capb, rfl, _⟩ := hv.open
  have hxk : x.k = k' ∧ x.s = s' := by
    obtain ⟨_, _, he, _⟩ := hx.open
    injection he with he
    injection he with he
    simp at he
    exact ⟨he.1.symm, by have := he.2.2.2.2.1; first | exact this.symm | exact (congrArg (fun b : ByteArray => b.data.toList) this).symm | simpa [st] using this.symm⟩
  rw [hxk.1, hxk.2]
  have co : ∀ w', Below w.heap.size w w' → Calls Try.prog 37 #[.string (st [115, 116, 97, 114, 116, 105, 110, 103, 87, 105, 116, 104]), valV v.k v.b v.n v.f v.s B v.l.length capb, valV k' b' n' f' s' B' len' c'] w' fun e w'' => e = .returned (.bool (v.k == 4 && k' == 4 && Go.Lib.hasPrefix v.s s')) ∧ Below w'.heap.size w' w'' :=
    fun w' hb => text_start_c v.k v.b v.n v.f v.s B v.l.length capb k' b' n' f' s' B' len' c' w' hs
  clear hv hx hp hxk
  generalize (v.k == 4 && k' == 4 && Go.Lib.hasPrefix v.s s') = q at *
  go_enter Try.func17, Try.ntmps17
  go_upto_region 1 with fail
  obtain ⟨w1, hw1⟩ : ∃ w1, w1 = (w.alloc (.cells #[.string (st [115, 116, 97, 114, 116, 105, 110, 103, 87, 105, 116, 104]), .slice (some ad) 1 cap, .slice none 0 0] 25)).alloc (.cells #[.int .i64 v.k, .bool v.b, .int .i64 v.n, .float .f64 v.f, .string (st v.s), .slice B v.l.length capb] 31) := ⟨_, rfl⟩
  have bk : Below w.heap.size w w1 := hw1 ▸ (below_alloc w _).alloc (by simp) _
  obtain ⟨x6, x0, x1, x2, x3, x4, x5⟩ : Box w1 (w.heap.size + 1) v.k v.b v.n v.f v.s B v.l.length capb := hw1 ▸ Box.new2 w v.k v.b v.n v.f v.s B v.l.length capb _ _
  have hx7 : w.heap.size + 1 < w1.heap.size := by rw [hw1]; simp
  have z0 : w1.cell? ⟨w.heap.size, 0, none⟩ = some (.string (st [115, 116, 97, 114, 116, 105, 110, 103, 87, 105, 116, 104])) := by rw [hw1]; simp [go_sem]
  have z1 : w1.cell? ⟨w.heap.size, 1, none⟩ = some (.slice (some ad) 1 cap) := by rw [hw1]; simp [go_sem]
  have z6 : w.heap.size < w1.heap.size := by omega
  rw [← hw1]
  clear hw1
  have d1 := fun p : In w1 => co p.w (p.back bk)
  clear co
  obtain ⟨q6, q0, q1, q2, q3, q4, q5⟩ := hat.keep bk
  clear hat
  go_upto_region 29 with fail
  (refine wp_region_flow [] (by kernel_rfl) (by kernel_rfl) ?_; (repeat (((with_reducible refine wpFlow_steps ?_); intro K hK; go_simp; first | (with_reducible refine hK _ ?_; clear hK K) | (apply Exists.intro; (with_reducible refine ⟨fun _ => ⟨?_, _, rfl⟩, hK _ ?_⟩); (· exact rfl); clear hK K) | (apply Exists.intro; (with_reducible refine ⟨fun _ => ⟨_, rfl⟩, hK _ ?_⟩); clear hK K) | (apply Exists.intro; (with_reducible refine ⟨fun _ => ?_, hK _ ?_⟩); (· (with_reducible (exact d1 _))); clear hK K)))); (refine wpFlow_nil ?_; rintro w1 ⟨q0, hq0⟩; have hb := In.h q0; rw [← hq0] at hb; clear hq0 q0; (first | ((with_reducible obtain ⟨p, hw''⟩ := In.of2 p hb); subst hw'') | (obtain ⟨p, hw''⟩ := In.of hb; subst hw'')); go_simp; intros))
  go_wp2_with fail
  go_ret
  exact ⟨rfl, p.back bk⟩
theorem end_c (s t : List UInt8) (w : World) (hs : s.length ≤ 4000000000) : Calls Try.prog 48 #[.string (st s), .string (st t)] w fun e w' => e = .returned (.bool (Go.Lib.hasSuffix s t)) ∧ Below w.heap.size w w' :=
  (Try.strings_HasSuffix (st s) (st t) w (by simp [st, ByteArray.size]; omega)).mono fun e w' h => by obtain ⟨h1, rfl⟩ := h; exact ⟨h1, Below.refl _ _⟩
set_option maxRecDepth 8000 in
set_option maxHeartbeats 1000000 in
theorem text_end_c (k : Int) (b : Bool) (n : Int) (f : Nat) (s : List UInt8) (B : Option Addr) (len c : Nat) (k' : Int) (b' : Bool) (n' : Int) (f' : Nat) (s' : List UInt8) (B' : Option Addr) (len' c' : Nat) (w : World) (hs : s.length ≤ 4000000000) :
    Calls Try.prog 37 #[.string (st [101, 110, 100, 105, 110, 103, 87, 105, 116, 104]), valV k b n f s B len c, valV k' b' n' f' s' B' len' c'] w fun e w' => e = .returned (.bool (k == 4 && k' == 4 && Go.Lib.hasSuffix s s')) ∧ Below w.heap.size w w' := by
  have cf : ∀ w', Below w.heap.size w w' → Calls Try.prog 48 #[.string (st s), .string (st s')] w' fun e w'' => e = .returned (.bool (Go.Lib.hasSuffix s s')) ∧ Below w'.heap.size w' w'' := fun w' hb => end_c s s' w' hs
  generalize Go.Lib.hasSuffix s s' = r at *
  go_enter Try.func37, Try.ntmps37
  go_upto_region 1 with fail
  obtain ⟨w1, hw1⟩ : ∃ w1, w1 = (w.alloc (.cells #[.int .i64 k, .bool b, .int .i64 n, .float .f64 f, .string (st s), .slice B len c] 31)).alloc (.cells #[.int .i64 k', .bool b', .int .i64 n', .float .f64 f', .string (st s'), .slice B' len' c'] 31) := ⟨_, rfl⟩
  have bk : Below w.heap.size w w1 := hw1 ▸ (below_alloc w _).alloc (by simp) _
  obtain ⟨x6, x0, x1, x2, x3, x4, x5⟩ : Box w1 w.heap.size k b n f s B len c := hw1 ▸ (Box.new w k b n f s B len c _).keep (below_alloc _ _)
  obtain ⟨y6, y0, y1, y2, y3, y4, y5⟩ : Box w1 (w.heap.size + 1) k' b' n' f' s' B' len' c' := hw1 ▸ Box.new2 w k' b' n' f' s' B' len' c' _ _
  rw [← hw1]
  clear hw1
  have d1 := cf w1 bk
  clear cf
  by_cases h4 : k = 4
  · subst h4
    by_cases h5 : k' = 4
    · subst h5
      go_wp2_with ((with_reducible refine d1.mono ?_); rintro e w2 ⟨rfl, hb2⟩)
      go_ret
      exact ⟨ret_bool (by simp), bk.trans (hb2.mono bk.size)⟩
    · have h5' : (k' != 4) = true := by simpa using h5
      have h5'' : (k' == 4) = false := by simpa using h5
      go_wp2_with fail
      go_ret
      exact ⟨ret_bool (by rw [h5'']; simp), bk⟩
  · have h4' : (k != 4) = true := by simpa using h4
    have h4'' : (k == 4) = false := by simpa using h4
    go_wp2_with fail
    go_ret
    exact ⟨ret_bool (by rw [h4'']; simp), bk⟩
set_option maxRecDepth 8000 in
set_option maxHeartbeats 2000000 in
theorem holds_end_c (u : Value) (v x : Val) (A : Option Addr) (cap : Nat) (w : World) (hv : Has w u v) (hp : Parts w A [x]) (hs : v.s.length ≤ 4000000000) :
    Calls Try.prog 17 #[predV [101, 110, 100, 105, 110, 103, 87, 105, 116, 104] A 1 cap none 0 0, u] w fun e w' => e = .returned (.bool (v.k == 4 && x.k == 4 && Go.Lib.hasSuffix v.s x.s)) ∧ Below w.heap.size w w' := by
  obtain ⟨ad, k', b', n', f', s', B', len', c', had, hx, hat⟩ := hp 0 x rfl
  subst had
  rw [show ad.add (0 * 6) = ad from rfl] at hat
  obtain ⟨B, capb, rfl, _⟩ := hv.open
  have hxk : x.k = k' ∧ x.s = s' := by
    obtain ⟨_, _, he, _⟩ := hx.open
    injection he with he
    injection he with he
    simp at he
    exact ⟨he.1.symm, by have := he.2.2.2.2.1; first | exact this.symm | exact (congrArg (fun b : ByteArray => b.data.toList) this).symm | simpa [st] using this.symm⟩
  rw [hxk.1, hxk.2]
  have co : ∀ w', Below w.heap.size w w' → Calls Try.prog 37 #[.string (st [101, 110, 100, 105, 110, 103, 87, 105, 116, 104]), valV v.k v.b v.n v.f v.s B v.l.length capb, valV k' b' n' f' s' B' len' c'] w' fun e w'' => e = .returned (.bool (v.k == 4 && k' == 4 && Go.Lib.hasSuffix v.s s')) ∧ Below w'.heap.size w' w'' :=
    fun w' hb => text_end_c v.k v.b v.n v.f v.s B v.l.length capb k' b' n' f' s' B' len' c' w' hs
  clear hv hx hp hxk
  generalize (v.k == 4 && k' == 4 && Go.Lib.hasSuffix v.s s') = q at *
  go_enter Try.func17, Try.ntmps17
  go_upto_region 1 with fail
  obtain ⟨w1, hw1⟩ : ∃ w1, w1 = (w.alloc (.cells #[.string (st [101, 110, 100, 105, 110, 103, 87, 105, 116, 104]), .slice (some ad) 1 cap, .slice none 0 0] 25)).alloc (.cells #[.int .i64 v.k, .bool v.b, .int .i64 v.n, .float .f64 v.f, .string (st v.s), .slice B v.l.length capb] 31) := ⟨_, rfl⟩
  have bk : Below w.heap.size w w1 := hw1 ▸ (below_alloc w _).alloc (by simp) _
  obtain ⟨x6, x0, x1, x2, x3, x4, x5⟩ : Box w1 (w.heap.size + 1) v.k v.b v.n v.f v.s B v.l.length capb := hw1 ▸ Box.new2 w v.k v.b v.n v.f v.s B v.l.length capb _ _
  have hx7 : w.heap.size + 1 < w1.heap.size := by rw [hw1]; simp
  have z0 : w1.cell? ⟨w.heap.size, 0, none⟩ = some (.string (st [101, 110, 100, 105, 110, 103, 87, 105, 116, 104])) := by rw [hw1]; simp [go_sem]
  have z1 : w1.cell? ⟨w.heap.size, 1, none⟩ = some (.slice (some ad) 1 cap) := by rw [hw1]; simp [go_sem]
  have z6 : w.heap.size < w1.heap.size := by omega
  rw [← hw1]
  clear hw1
  have d1 := fun p : In w1 => co p.w (p.back bk)
  clear co
  obtain ⟨q6, q0, q1, q2, q3, q4, q5⟩ := hat.keep bk
  clear hat
  go_upto_region 29 with fail
  (refine wp_region_flow [] (by kernel_rfl) (by kernel_rfl) ?_; (repeat (((with_reducible refine wpFlow_steps ?_); intro K hK; go_simp; first | (with_reducible refine hK _ ?_; clear hK K) | (apply Exists.intro; (with_reducible refine ⟨fun _ => ⟨?_, _, rfl⟩, hK _ ?_⟩); (· exact rfl); clear hK K) | (apply Exists.intro; (with_reducible refine ⟨fun _ => ⟨_, rfl⟩, hK _ ?_⟩); clear hK K) | (apply Exists.intro; (with_reducible refine ⟨fun _ => ?_, hK _ ?_⟩); (· (with_reducible (exact d1 _))); clear hK K)))); (refine wpFlow_nil ?_; rintro w1 ⟨q0, hq0⟩; have hb := In.h q0; rw [← hq0] at hb; clear hq0 q0; (first | ((with_reducible obtain ⟨p, hw''⟩ := In.of2 p hb); subst hw'') | (obtain ⟨p, hw''⟩ := In.of hb; subst hw'')); go_simp; intros))
  go_wp2_with fail
  go_ret
  exact ⟨rfl, p.back bk⟩
theorem has_c (s t : List UInt8) (w : World) (hs : s.length ≤ 4000000000) (m : Int) (hm : w.cell? ⟨maxG, 0, none⟩ = some (.int .i64 m)) : Calls Try.prog 49 #[.string (st s), .string (st t)] w fun e w' => e = .returned (.bool (Go.Lib.contains s t)) ∧ Below w.heap.size w w' :=
  (Try.strings_Contains (st s) (st t) m w (by simp [st, ByteArray.size]; omega) hm).mono fun e w' h => by obtain ⟨h1, rfl⟩ := h; exact ⟨h1, Below.refl _ _⟩
set_option maxRecDepth 8000 in
set_option maxHeartbeats 1000000 in
theorem text_has_c (k : Int) (b : Bool) (n : Int) (f : Nat) (s : List UInt8) (B : Option Addr) (len c : Nat) (k' : Int) (b' : Bool) (n' : Int) (f' : Nat) (s' : List UInt8) (B' : Option Addr) (len' c' : Nat) (w : World) (hs : s.length ≤ 4000000000) (m : Int) (hm : w.cell? ⟨maxG, 0, none⟩ = some (.int .i64 m)) :
    Calls Try.prog 37 #[.string (st [99, 111, 110, 116, 97, 105, 110, 105, 110, 103]), valV k b n f s B len c, valV k' b' n' f' s' B' len' c'] w fun e w' => e = .returned (.bool (k == 4 && k' == 4 && Go.Lib.contains s s')) ∧ Below w.heap.size w w' := by
  have cf : ∀ w', Below w.heap.size w w' → Calls Try.prog 49 #[.string (st s), .string (st s')] w' fun e w'' => e = .returned (.bool (Go.Lib.contains s s')) ∧ Below w'.heap.size w' w'' := fun w' hb => has_c s s' w' hs m ((hb.cell (p := ⟨maxG, 0, none⟩) (World.block_lt_of_cell? w ⟨maxG, 0, none⟩ hm)).trans hm)
  generalize Go.Lib.contains s s' = r at *
  clear hm
  go_enter Try.func37, Try.ntmps37
  go_upto_region 1 with fail
  obtain ⟨w1, hw1⟩ : ∃ w1, w1 = (w.alloc (.cells #[.int .i64 k, .bool b, .int .i64 n, .float .f64 f, .string (st s), .slice B len c] 31)).alloc (.cells #[.int .i64 k', .bool b', .int .i64 n', .float .f64 f', .string (st s'), .slice B' len' c'] 31) := ⟨_, rfl⟩
  have bk : Below w.heap.size w w1 := hw1 ▸ (below_alloc w _).alloc (by simp) _
  obtain ⟨x6, x0, x1, x2, x3, x4, x5⟩ : Box w1 w.heap.size k b n f s B len c := hw1 ▸ (Box.new w k b n f s B len c _).keep (below_alloc _ _)
  obtain ⟨y6, y0, y1, y2, y3, y4, y5⟩ : Box w1 (w.heap.size + 1) k' b' n' f' s' B' len' c' := hw1 ▸ Box.new2 w k' b' n' f' s' B' len' c' _ _
  rw [← hw1]
  clear hw1
  have d1 := cf w1 bk
  clear cf
  by_cases h4 : k = 4
  · subst h4
    by_cases h5 : k' = 4
    · subst h5
      go_wp2_with ((with_reducible refine d1.mono ?_); rintro e w2 ⟨rfl, hb2⟩)
      go_ret
      exact ⟨ret_bool (by simp), bk.trans (hb2.mono bk.size)⟩
    · have h5' : (k' != 4) = true := by simpa using h5
      have h5'' : (k' == 4) = false := by simpa using h5
      go_wp2_with fail
      go_ret
      exact ⟨ret_bool (by rw [h5'']; simp), bk⟩
  · have h4' : (k != 4) = true := by simpa using h4
    have h4'' : (k == 4) = false := by simpa using h4
    go_wp2_with fail
    go_ret
    exact ⟨ret_bool (by rw [h4'']; simp), bk⟩
set_option maxRecDepth 8000 in
set_option maxHeartbeats 2000000 in
theorem holds_has_c (u : Value) (v x : Val) (A : Option Addr) (cap : Nat) (w : World) (hv : Has w u v) (hp : Parts w A [x]) (hs : v.s.length ≤ 4000000000) (m : Int) (hm : w.cell? ⟨maxG, 0, none⟩ = some (.int .i64 m)) :
    Calls Try.prog 17 #[predV [99, 111, 110, 116, 97, 105, 110, 105, 110, 103] A 1 cap none 0 0, u] w fun e w' => e = .returned (.bool (v.k == 4 && x.k == 4 && Go.Lib.contains v.s x.s)) ∧ Below w.heap.size w w' := by
  obtain ⟨ad, k', b', n', f', s', B', len', c', had, hx, hat⟩ := hp 0 x rfl
  subst had
  rw [show ad.add (0 * 6) = ad from rfl] at hat
  obtain ⟨B, capb, rfl, _⟩ := hv.open
  have hxk : x.k = k' ∧ x.s = s' := by
    obtain ⟨_, _, he, _⟩ := hx.open
    injection he with he
    injection he with he
    simp at he
    exact ⟨he.1.symm, by have := he.2.2.2.2.1; first | exact this.symm | exact (congrArg (fun b : ByteArray => b.data.toList) this).symm | simpa [st] using this.symm⟩
  rw [hxk.1, hxk.2]
  have co : ∀ w', Below w.heap.size w w' → Calls Try.prog 37 #[.string (st [99, 111, 110, 116, 97, 105, 110, 105, 110, 103]), valV v.k v.b v.n v.f v.s B v.l.length capb, valV k' b' n' f' s' B' len' c'] w' fun e w'' => e = .returned (.bool (v.k == 4 && k' == 4 && Go.Lib.contains v.s s')) ∧ Below w'.heap.size w' w'' :=
    fun w' hb => text_has_c v.k v.b v.n v.f v.s B v.l.length capb k' b' n' f' s' B' len' c' w' hs m ((hb.cell (p := ⟨maxG, 0, none⟩) (World.block_lt_of_cell? w ⟨maxG, 0, none⟩ hm)).trans hm)
  clear hv hx hp hxk
  generalize (v.k == 4 && k' == 4 && Go.Lib.contains v.s s') = q at *
  clear hm
  go_enter Try.func17, Try.ntmps17
  go_upto_region 1 with fail
  obtain ⟨w1, hw1⟩ : ∃ w1, w1 = (w.alloc (.cells #[.string (st [99, 111, 110, 116, 97, 105, 110, 105, 110, 103]), .slice (some ad) 1 cap, .slice none 0 0] 25)).alloc (.cells #[.int .i64 v.k, .bool v.b, .int .i64 v.n, .float .f64 v.f, .string (st v.s), .slice B v.l.length capb] 31) := ⟨_, rfl⟩
  have bk : Below w.heap.size w w1 := hw1 ▸ (below_alloc w _).alloc (by simp) _
  obtain ⟨x6, x0, x1, x2, x3, x4, x5⟩ : Box w1 (w.heap.size + 1) v.k v.b v.n v.f v.s B v.l.length capb := hw1 ▸ Box.new2 w v.k v.b v.n v.f v.s B v.l.length capb _ _
  have hx7 : w.heap.size + 1 < w1.heap.size := by rw [hw1]; simp
  have z0 : w1.cell? ⟨w.heap.size, 0, none⟩ = some (.string (st [99, 111, 110, 116, 97, 105, 110, 105, 110, 103])) := by rw [hw1]; simp [go_sem]
  have z1 : w1.cell? ⟨w.heap.size, 1, none⟩ = some (.slice (some ad) 1 cap) := by rw [hw1]; simp [go_sem]
  have z6 : w.heap.size < w1.heap.size := by omega
  rw [← hw1]
  clear hw1
  have d1 := fun p : In w1 => co p.w (p.back bk)
  clear co
  obtain ⟨q6, q0, q1, q2, q3, q4, q5⟩ := hat.keep bk
  clear hat
  go_upto_region 29 with fail
  (refine wp_region_flow [] (by kernel_rfl) (by kernel_rfl) ?_; (repeat (((with_reducible refine wpFlow_steps ?_); intro K hK; go_simp; first | (with_reducible refine hK _ ?_; clear hK K) | (apply Exists.intro; (with_reducible refine ⟨fun _ => ⟨?_, _, rfl⟩, hK _ ?_⟩); (· exact rfl); clear hK K) | (apply Exists.intro; (with_reducible refine ⟨fun _ => ⟨_, rfl⟩, hK _ ?_⟩); clear hK K) | (apply Exists.intro; (with_reducible refine ⟨fun _ => ?_, hK _ ?_⟩); (· (with_reducible (exact d1 _))); clear hK K)))); (refine wpFlow_nil ?_; rintro w1 ⟨q0, hq0⟩; have hb := In.h q0; rw [← hq0] at hb; clear hq0 q0; (first | ((with_reducible obtain ⟨p, hw''⟩ := In.of2 p hb); subst hw'') | (obtain ⟨p, hw''⟩ := In.of hb; subst hw'')); go_simp; intros))
  go_wp2_with fail
  go_ret
  exact ⟨rfl, p.back bk⟩
end Go.Proofs.Ytglcnnnjdkjggaa
