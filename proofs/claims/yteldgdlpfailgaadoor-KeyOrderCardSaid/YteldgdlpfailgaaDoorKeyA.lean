
/-
  key.Of at numbers.
-/
import Derived.Test.YteldgdlpfailgaaDoorKeyP
import Derived.Test.YteldgdlpfailgaaDoorFlow
set_option linter.unusedSimpArgs false
set_option linter.unusedVariables false
namespace Go.Proofs.YteldgdlpfailgaaDoor
open Go.RowKit

theorem conv_at (w : World) (b T : Nat) (xs : List Int) (h : w.heap[b]? = some (.cells (xs.map (Value.int .u8)).toArray T)) :
    (convert 44 9 (.slice (some ⟨b, 0, none⟩) xs.length xs.length)).run Tryd.prog w = .ok (.string (st (xs.map byte))) w := by
  refine run_convert_bytes_arg _ 44 5 Tryd.underlying44 Tryd.underlying5 b 0 xs.length xs.length xs rfl ?_ 9 Tryd.underlying9
  intro i hi
  simp only [World.cell?, h]
  simp [hi]
theorem conv1_at (w : World) (b T : Nat) (x : Int) (h : w.heap[b]? = some (.cells #[.int .u8 x] T)) : (convert 44 9 (.slice (some ⟨b, 0, none⟩) 1 1)).run Tryd.prog w = .ok (.string (st [byte x])) w :=
  conv_at w b T [x] h
@[go_sem] theorem eightL_len (n : Int) : (eightL n).length = 8 := rfl
@[go_sem] theorem twoL_len (n : Int) : (twoL n).length = 2 := rfl
theorem below_same {P : Program} {f : FuncId} {args : Array Value} {w : World} {v : Value} (h : Calls P f args w fun e w' => e = .returned v ∧ w = w') : Calls P f args w fun e w'' => e = .returned v ∧ Below w.heap.size w w'' := h.mono fun e w' ⟨h1, h2⟩ => ⟨h1, h2 ▸ Below.refl _ _⟩

set_option maxHeartbeats 1000000 in
theorem class_num (k : Int) (hk : k = 2 ∨ k = 3) (w : World) : Calls Tryd.prog 25 #[.int .i64 k] w (StrEnds [3] w) := by
  have hc := conv_new w 5 [3]
  simp only [List.length_cons, List.length_nil, List.map_cons, List.map_nil, Nat.zero_add, Nat.reduceAdd] at hc
  rcases hk with rfl | rfl
  all_goals
    go_enter Tryd.func25, Tryd.ntmps25
    go_wp2
    go_ret
    exact ⟨rfl, by go_grown⟩
set_option maxRecDepth 8000 in
set_option maxHeartbeats 2000000 in
theorem number_int (n : Int) (f : Nat) (b : Bool) (s : List UInt8) (A : Option Addr) (len cap : Nat) (w : World) (hn : I64 n) :
    Calls Tryd.prog 26 #[valV 2 b n f s A len cap] w (StrEnds (eightL (key (part n)) ++ twoL (over n) ++ [2]) w) := by
  have cs := fun w => split_c n w hn
  unfold PartEnds at cs
  have ck := fun w => below_same (key_c (part n) w (u64_part hn))
  have ce : ∀ w, Calls Tryd.prog 22 #[.int .u64 (fb (key (part n)))] w fun e w' => e = .returned (.string (st (eightL (key (part n))))) ∧ Below w.heap.size w w' := fun w => eight_c (fb (key (part n))) w (by unfold fb; omega)
  have ct : ∀ w, Calls Tryd.prog 39 #[.int .i64 (over n)] w fun e w' => e = .returned (.string (st (twoL (over n)))) ∧ Below w.heap.size w w' := fun w => two_c (over n) w
  clear hn
  generalize part n = P at *
  generalize over n = O at *
  generalize key P = K at *
  go_enter Tryd.func26, Tryd.ntmps26
  go_upto_region 4 with ((with_reducible refine (cs _).mono ?_); rintro e w2 ⟨rfl, hb2⟩; (first | ((with_reducible obtain ⟨p, hw''⟩ := In.of2 p hb2); subst hw'') | (obtain ⟨p, hw''⟩ := In.of hb2; subst hw'')))
  have b2 : Below w.heap.size w p.w := p.back ((below_alloc w _).alloc (by simp) _)
  obtain ⟨w3, hw3⟩ : ∃ w3, w3 = ((p.w.setCell ⟨w.heap.size + 1, 0, none⟩ (.float .f64 P)).setCell ⟨w.heap.size + 1, 1, none⟩ (.int .i64 O)) := ⟨_, rfl⟩
  have hs : w.heap.size + 1 < p.w.heap.size := by have := p.h.size; simp at this; omega
  have a0 : w3.cell? ⟨w.heap.size, 0, none⟩ = some (.int .i64 2) := by rw [hw3]; go_simp
  have a1 : w3.cell? ⟨w.heap.size + 1, 0, none⟩ = some (.float .f64 P) := by rw [hw3]; go_simp
  have a2 : w3.cell? ⟨w.heap.size + 1, 1, none⟩ = some (.int .i64 O) := by rw [hw3]; go_simp
  have a3 : w.heap.size < w3.heap.size := by rw [hw3]; simp [World.setCell]; omega
  have a4 : w.heap.size + 1 < w3.heap.size := by rw [hw3]; simp [World.setCell]; omega
  have B3 : Below w.heap.size w w3 := by
    rw [hw3]
    repeat (with_reducible refine back_set ?_ _ (Nat.le_succ _) _)
    exact b2
  rw [← hw3]
  clear hw3 b2 hs hb2
  clear p
  refine wp_region_flow [24] (by kernel_rfl) (by kernel_rfl) ?_
  repeat (((with_reducible refine wpFlow_steps ?_); intro K hK; go_simp; first | (with_reducible refine hK _ ?_; clear hK K) | (apply Exists.intro; (with_reducible refine ⟨fun _ => ⟨?_, _, rfl⟩, hK _ ?_⟩); (· exact rfl); clear hK K) | (apply Exists.intro; (with_reducible refine ⟨fun _ => ⟨_, rfl⟩, hK _ ?_⟩); clear hK K) | (apply Exists.intro; (with_reducible refine ⟨fun _ => ?_, hK _ ?_⟩); (· (with_reducible (first | exact fun b T h => conv1_at _ b T _ h | exact ck _ | exact ce _ | exact ct _))); clear hK K)))
  (refine wpFlow_nil ?_; rintro w1 ⟨q0, hq0⟩; have hb := In.h q0; rw [← hq0] at hb; clear hq0 q0; (first | ((with_reducible obtain ⟨p, hw''⟩ := In.of2 p hb); subst hw'') | (obtain ⟨p, hw''⟩ := In.of hb; subst hw'')); go_simp; intros)
  go_wp2_with fail
  go_ret
  exact ⟨ret_str (by simp [show byte (IntKind.u8.wrap 2) = 2 from by decide]), p.back B3⟩
set_option maxRecDepth 8000 in
set_option maxHeartbeats 2000000 in
theorem number_float (n : Int) (f : Nat) (b : Bool) (s : List UInt8) (A : Option Addr) (len cap : Nat) (w : World) (hf : U64 f) :
    Calls Tryd.prog 26 #[valV 3 b n f s A len cap] w (StrEnds (eightL (key f) ++ [0, 0] ++ [3]) w) := by
  have ck := fun w => below_same (key_c f w hf)
  have ce : ∀ w, Calls Tryd.prog 22 #[.int .u64 (fb (key f))] w fun e w' => e = .returned (.string (st (eightL (key f)))) ∧ Below w.heap.size w w' := fun w => eight_c (fb (key f)) w (by unfold fb; omega)
  have ct : ∀ w, Calls Tryd.prog 39 #[.int .i64 0] w fun e w' => e = .returned (.string (st [0, 0])) ∧ Below w.heap.size w w' := fun w => two_c 0 w
  clear hf
  generalize key f = K at *
  go_enter Tryd.func26, Tryd.ntmps26
  go_upto_region 4 with fail
  obtain ⟨w3, hw3⟩ : ∃ w3, w3 = (w.alloc (.cells #[.int .i64 3, .bool b, .int .i64 n, .float .f64 f, .string (st s), .slice A len cap] 37)).alloc (.cells #[.float .f64 f, .int .i64 0] 59) := ⟨_, rfl⟩
  have a0 : w3.cell? ⟨w.heap.size, 0, none⟩ = some (.int .i64 3) := by rw [hw3]; go_simp
  have a1 : w3.cell? ⟨w.heap.size + 1, 0, none⟩ = some (.float .f64 f) := by rw [hw3]; go_simp
  have a2 : w3.cell? ⟨w.heap.size + 1, 1, none⟩ = some (.int .i64 0) := by rw [hw3]; go_simp
  have a3 : w.heap.size < w3.heap.size := by rw [hw3]; simp; omega
  have a4 : w.heap.size + 1 < w3.heap.size := by rw [hw3]; simp
  have B3 : Below w.heap.size w w3 := hw3 ▸ ((below_alloc w _).alloc (by simp) _)
  rw [← hw3]
  clear hw3
  refine wp_region_flow [24] (by kernel_rfl) (by kernel_rfl) ?_
  repeat (((with_reducible refine wpFlow_steps ?_); intro K hK; go_simp; first | (with_reducible refine hK _ ?_; clear hK K) | (apply Exists.intro; (with_reducible refine ⟨fun _ => ⟨?_, _, rfl⟩, hK _ ?_⟩); (· exact rfl); clear hK K) | (apply Exists.intro; (with_reducible refine ⟨fun _ => ⟨_, rfl⟩, hK _ ?_⟩); clear hK K) | (apply Exists.intro; (with_reducible refine ⟨fun _ => ?_, hK _ ?_⟩); (· (with_reducible (first | exact fun b T h => conv1_at _ b T _ h | exact ck _ | exact ce _ | exact ct _))); clear hK K)))
  (refine wpFlow_nil ?_; rintro w1 ⟨q0, hq0⟩; have hb := In.h q0; rw [← hq0] at hb; clear hq0 q0; (first | ((with_reducible obtain ⟨p, hw''⟩ := In.of2 p hb); subst hw'') | (obtain ⟨p, hw''⟩ := In.of hb; subst hw'')); go_simp; intros)
  go_wp2_with fail
  go_ret
  exact ⟨ret_str (by simp [show byte (IntKind.u8.wrap 3) = 3 from by decide]), p.back B3⟩
set_option maxRecDepth 8000 in
set_option maxHeartbeats 2000000 in
theorem of_int (n : Int) (w : World) (hn : I64 n) : Calls Tryd.prog 17 #[valV 2 false n 0 [] none 0 0] w (StrEnds (keyI n) w) := by
  have cc := fun w => class_num 2 (.inl rfl) w
  have cn := fun w => number_int n 0 false [] none 0 0 w hn
  have hl : (eightL (key (part n)) ++ twoL (over n) ++ [2]).length = 11 := by simp [eightL, twoL]
  have hR : keyI n = 3 :: (eightL (key (part n)) ++ twoL (over n) ++ [2]) := by unfold keyI; simp
  unfold StrEnds at cc cn
  have hR := Lib.hid hR
  clear hn
  generalize eightL (key (part n)) ++ twoL (over n) ++ [2] = T at *
  go_enter Tryd.func17, Tryd.ntmps17
  go_upto_region 1 with fail
  obtain ⟨w1, hw1⟩ : ∃ w1, w1 = w.alloc (.cells #[.int .i64 2, .bool false, .int .i64 n, .float .f64 0, .string (st []), .slice none 0 0] 37) := ⟨_, rfl⟩
  have bk : Below w.heap.size w w1 := hw1 ▸ below_alloc w _
  obtain ⟨x6, x0, x1, x2, x3, x4, x5⟩ : Box w1 w.heap.size 2 false n 0 [] none 0 0 := hw1 ▸ Box.new w 2 false n 0 [] none 0 0 _
  rw [show w.alloc (.cells #[.int .i64 2, .bool false, .int .i64 n, .float .f64 0, .string ⟨#[]⟩, .slice none 0 0] 37) = w1 from by rw [hw1] <;> rfl]
  clear hw1
  go_wp2_with (first | ((with_reducible refine (cc _).mono ?_); rintro e w2 ⟨rfl, hb2⟩; (first | ((with_reducible obtain ⟨p, hw''⟩ := In.of2 p hb2); subst hw'') | (obtain ⟨p, hw''⟩ := In.of hb2; subst hw''))) | ((with_reducible refine (cn _).mono ?_); rintro e w3 ⟨rfl, hb3⟩; (first | ((with_reducible obtain ⟨p, hw''⟩ := In.of2 p hb3); subst hw'') | (obtain ⟨p, hw''⟩ := In.of hb3; subst hw''))))
  go_ret
  exact ⟨ret_str (by rw [hR.out] <;> rfl), p.back bk⟩
set_option maxRecDepth 8000 in
set_option maxHeartbeats 2000000 in
theorem of_float (f : Nat) (w : World) (hf : U64 f) : Calls Tryd.prog 17 #[valV 3 false 0 f [] none 0 0] w (StrEnds (keyD f) w) := by
  have cc := fun w => class_num 3 (.inr rfl) w
  have cn := fun w => number_float 0 f false [] none 0 0 w hf
  have hl : (eightL (key f) ++ [0, 0] ++ [3]).length = 11 := by simp [eightL]
  have hR : keyD f = 3 :: (eightL (key f) ++ [0, 0] ++ [3]) := by unfold keyD; simp
  unfold StrEnds at cc cn
  have hR := Lib.hid hR
  clear hf
  generalize eightL (key f) ++ [0, 0] ++ [3] = T at *
  go_enter Tryd.func17, Tryd.ntmps17
  go_upto_region 1 with fail
  obtain ⟨w1, hw1⟩ : ∃ w1, w1 = w.alloc (.cells #[.int .i64 3, .bool false, .int .i64 0, .float .f64 f, .string (st []), .slice none 0 0] 37) := ⟨_, rfl⟩
  have bk : Below w.heap.size w w1 := hw1 ▸ below_alloc w _
  obtain ⟨x6, x0, x1, x2, x3, x4, x5⟩ : Box w1 w.heap.size 3 false 0 f [] none 0 0 := hw1 ▸ Box.new w 3 false 0 f [] none 0 0 _
  rw [show w.alloc (.cells #[.int .i64 3, .bool false, .int .i64 0, .float .f64 f, .string ⟨#[]⟩, .slice none 0 0] 37) = w1 from by rw [hw1] <;> rfl]
  clear hw1
  go_wp2_with (first | ((with_reducible refine (cc _).mono ?_); rintro e w2 ⟨rfl, hb2⟩; (first | ((with_reducible obtain ⟨p, hw''⟩ := In.of2 p hb2); subst hw'') | (obtain ⟨p, hw''⟩ := In.of hb2; subst hw''))) | ((with_reducible refine (cn _).mono ?_); rintro e w3 ⟨rfl, hb3⟩; (first | ((with_reducible obtain ⟨p, hw''⟩ := In.of2 p hb3); subst hw'') | (obtain ⟨p, hw''⟩ := In.of hb3; subst hw''))))
  go_ret
  exact ⟨ret_str (by rw [hR.out] <;> rfl), p.back bk⟩
set_option maxRecDepth 8000 in
set_option maxHeartbeats 2000000 in
/-- is a key in a span? -/
def inB (lo hi k : List UInt8) : Bool := !lessB k lo && (hi.isEmpty || lessB k hi)
theorem in_c (lo hi k : List UInt8) (w : World) : Calls Tryd.prog 13 #[.agg #[.string (st lo), .string (st hi)], .string (st k)] w fun e w' => e = .returned (.bool (inB lo hi k)) ∧ Below w.heap.size w w' := by
  have hE : inB lo hi k = (!lessB k lo && (hi.isEmpty || lessB k hi)) := rfl
  have hE := Lib.hid hE
  cases h1 : lessB k lo
  · cases hi with
    | nil =>
      go_enter Tryd.func13, Tryd.ntmps13
      go_wp2
      go_ret
      exact ⟨ret_bool (by rw [hE.out, h1]; rfl), below_alloc _ _⟩
    | cons c hi =>
      go_enter Tryd.func13, Tryd.ntmps13
      go_wp2
      go_ret
      exact ⟨ret_bool (by rw [hE.out, h1]; rfl), below_alloc _ _⟩
  · go_enter Tryd.func13, Tryd.ntmps13
    go_wp2
    go_ret
    exact ⟨ret_bool (by rw [hE.out, h1]; rfl), below_alloc _ _⟩
end Go.Proofs.YteldgdlpfailgaaDoor
