
/-
  Why a value may not be: the reference's check, by kinds; its Check.
-/
import Derived.Test.YtglcnnnjdkjggaaValI
set_option linter.unusedSimpArgs false
set_option linter.unusedVariables false
namespace Go.Proofs.Ytglcnnnjdkjggaa
open Go.RowKit

set_option maxRecDepth 8000 in
set_option maxHeartbeats 4000000 in
theorem rck0 (b : Bool) (n : Int) (f : Nat) (s : List UInt8) (l : List Val) (A : Option Addr) (cap : Nat) (w : World) (d : Nat) (hf : U64 f) (hlb : l.length ≤ 140737488351232) (hl : l.length ≤ cap) (hP : Parts w A l) (hd : d ≤ 14) (h13 : ¬ 13 < d)
    (ih : ∀ (i : Nat) (x : Val), l[i]? = some x → ∀ (u : Value) (w : World) (d : Nat), Has w u x → d ≤ 14 → Calls Try.prog 44 #[u, .int .i64 d] w (IntEnds (checkV x d) w)) :
    Calls Try.prog 44 #[valV 0 b n f s A l.length cap, .int .i64 d] w (IntEnds (checkV (.mk 0 b n f s l) d) w) := by
  have hV' := Lib.hid (show checkV (.mk 0 b n f s l) d = (if 13 < d then 3 else if shape 0 b n f s l = false then 6 else if 500 < s.length ∨ 1000 < l.length then 3 else if checkVL l (d + 1) ≠ 0 then checkVL l (d + 1) else if (0 : Int) = 6 ∧ risesV l = false then 6 else 0) by rw [checkV])
  have cs : ∀ w : World, Calls Try.prog 56 #[.float .f64 f] w fun e w' => e = .returned (.bool (Fl.neg f)) ∧ Below w.heap.size w w' := fun w => (signbit_c f w hf).mono fun e w' ⟨h1, h2⟩ => ⟨h1, h2 ▸ Below.refl _ _⟩
  have h13' : ¬ (13 : Int) < d := by omega
  go_enter Try.func44, Try.ntmps44
  go_upto_region 1 with fail
  obtain ⟨w1, hw1⟩ : ∃ w1, w1 = w.alloc (.cells #[.int .i64 0, .bool b, .int .i64 n, .float .f64 f, .string (st s), .slice A l.length cap] 31) := ⟨_, rfl⟩
  have bk : Below w.heap.size w w1 := hw1 ▸ below_alloc w _
  obtain ⟨x6, x0, x1, x2, x3, x4, x5⟩ : Box w1 w.heap.size 0 b n f s A l.length cap := hw1 ▸ Box.new w 0 b n f s A l.length cap _
  rw [← hw1]
  clear hw1
  have hi := Lib.hid ih
  have hp := Lib.hid hP
  clear ih hP
  go_upto_region 4 with fail
  go_cut [6] (fun a6 wx => a6 = .bool (f == 0) ∧ Below w1.heap.size w1 wx)
  case first =>
    clear hV' hi hp
    refine zero_cases _ hf (fun e1 e2 e3 e4 => ?_) (fun e1 e2 e3 => ?_) (fun e1 e2 => ?_)
    all_goals
      have hE := Lib.hid e1
      clear e1
      go_wp2_with ((with_reducible refine (cs _).mono ?_); rintro e w2 ⟨rfl, hb2⟩)
      ((with_reducible show Met _ _ _); refine Met.intro ?_; go_step; (repeat' apply Exists.intro); refine ⟨?_, rfl⟩)
      exact ⟨by rw [hE.out], by first | exact hb2 | exact Below.refl _ _⟩
  case rest =>
  obtain ⟨rfl, hbr⟩ := hcut
  have y0 := (hbr.cell (p := ⟨w.heap.size, 0, none⟩) x6).trans x0
  have y1 := (hbr.cell (p := ⟨w.heap.size, 1, none⟩) x6).trans x1
  have y2 := (hbr.cell (p := ⟨w.heap.size, 2, none⟩) x6).trans x2
  have y4 := (hbr.cell (p := ⟨w.heap.size, 4, none⟩) x6).trans x4
  have y5 := (hbr.cell (p := ⟨w.heap.size, 5, none⟩) x6).trans x5
  have y6 := Nat.lt_of_lt_of_le x6 hbr.size
  have bkr := bk.trans (hbr.mono bk.size)
  clear x0 x1 x2 x3 x4 x5 x6 hbr bk cs
  generalize wc = w2 at *
  obtain ⟨fz, hfz⟩ : ∃ fz, fz = (f == 0) := ⟨_, rfl⟩
  rw [← hfz]
  have hF := Lib.hid hfz
  clear hfz hf
  go_upto_region 6 with fail
  simp only [List.append_eq, List.cons_append, List.nil_append]
  rcases Bool.eq_false_or_eq_true b with hb | hb
  · subst hb
    have hsh : shape 0 true n f s l = false := by simp [shape, ← hF.out]
    have hS := Lib.hid hsh
    clear hsh hi hp
    go_wp2_with fail
    go_ret
    exact ⟨ret_int (by rw [hV'.out, if_neg h13, if_pos hS.out]), bkr⟩
  subst hb
  rcases Classical.em (n = 0) with hn0 | hn0
  rotate_left
  · have hn1 : (n != 0) = true := by simpa using hn0
    have hsh : shape 0 false n f s l = false := by simp [shape, ← hF.out, hn0]
    have hS := Lib.hid hsh
    clear hsh hi hp
    go_wp2_with fail
    go_ret
    exact ⟨ret_int (by rw [hV'.out, if_neg h13, if_pos hS.out]), bkr⟩
  subst hn0
  cases fz
  · have hsh : shape 0 false 0 f s l = false := by simp [shape, ← hF.out]
    have hS := Lib.hid hsh
    clear hsh hi hp
    go_wp2_with fail
    go_ret
    exact ⟨ret_int (by rw [hV'.out, if_neg h13, if_pos hS.out]), bkr⟩
  cases s with
  | cons c s =>
    have hsh : shape 0 false 0 f (c :: s) l = false := by simp [shape, ← hF.out]
    have hS := Lib.hid hsh
    clear hsh hi hp
    go_wp2_with fail
    go_ret
    exact ⟨ret_int (by rw [hV'.out, if_neg h13, if_pos hS.out]), bkr⟩
  | nil =>
  rcases Classical.em (0 < l.length) with hl0 | hl0
  · have hl1 : (0 : Int) < l.length := by omega
    have hl2 := Lib.hid (show l ≠ [] by intro h; rw [h] at hl0; exact absurd hl0 (by simp))
    have hsh : shape 0 false 0 f [] l = false := by simp [shape, ← hF.out, hl2.out]
    have hS := Lib.hid hsh
    clear hsh hi hp
    go_wp2_with fail
    go_ret
    exact ⟨ret_int (by rw [hV'.out, if_neg h13, if_pos hS.out]), bkr⟩
  have hl2 : l = [] := List.eq_nil_of_length_eq_zero (by omega)
  subst hl2
  have hsh : shape 0 false 0 f [] [] = true := by simp [shape, ← hF.out]
  have hS := Lib.hid hsh
  clear hsh
  have y5 : w2.cell? ⟨w.heap.size, 5, none⟩ = some (.slice A 0 cap) := y5
  have hV2 := Lib.hid (show checkV (.mk 0 false 0 f [] []) d = 0 by rw [hV'.out, if_neg h13, if_neg (by rw [hS.out]; simp), if_neg (by simp)] <;> simp [checkVL])
  clear hi hp hS hV'
  go_wp2_with fail
  go_loopw [8] (fun a8 wr => a8 = .int .i64 0 ∧ wr = w2) (fun _ _ => 0)
  case atStart => exact ⟨rfl, rfl⟩
  case round =>
    obtain ⟨rfl, rfl⟩ := hrel
    go_wp2_with fail
    go_ret
    exact ⟨ret_int hV2.out.symm, bkr⟩

set_option maxRecDepth 8000 in
set_option maxHeartbeats 4000000 in
theorem rck1a (n : Int) (f : Nat) (s : List UInt8) (l : List Val) (A : Option Addr) (cap : Nat) (w : World) (d : Nat) (hf : U64 f) (hlb : l.length ≤ 140737488351232) (hl : l.length ≤ cap) (hP : Parts w A l) (hd : d ≤ 14) (h13 : ¬ 13 < d)
    (ih : ∀ (i : Nat) (x : Val), l[i]? = some x → ∀ (u : Value) (w : World) (d : Nat), Has w u x → d ≤ 14 → Calls Try.prog 44 #[u, .int .i64 d] w (IntEnds (checkV x d) w)) :
    Calls Try.prog 44 #[valV 1 true n f s A l.length cap, .int .i64 d] w (IntEnds (checkV (.mk 1 true n f s l) d) w) := by
  have hV' := Lib.hid (show checkV (.mk 1 true n f s l) d = (if 13 < d then 3 else if shape 1 true n f s l = false then 6 else if 500 < s.length ∨ 1000 < l.length then 3 else if checkVL l (d + 1) ≠ 0 then checkVL l (d + 1) else if (1 : Int) = 6 ∧ risesV l = false then 6 else 0) by rw [checkV])
  have cs : ∀ w : World, Calls Try.prog 56 #[.float .f64 f] w fun e w' => e = .returned (.bool (Fl.neg f)) ∧ Below w.heap.size w w' := fun w => (signbit_c f w hf).mono fun e w' ⟨h1, h2⟩ => ⟨h1, h2 ▸ Below.refl _ _⟩
  have h13' : ¬ (13 : Int) < d := by omega
  go_enter Try.func44, Try.ntmps44
  go_upto_region 1 with fail
  obtain ⟨w1, hw1⟩ : ∃ w1, w1 = w.alloc (.cells #[.int .i64 1, .bool true, .int .i64 n, .float .f64 f, .string (st s), .slice A l.length cap] 31) := ⟨_, rfl⟩
  have bk : Below w.heap.size w w1 := hw1 ▸ below_alloc w _
  obtain ⟨x6, x0, x1, x2, x3, x4, x5⟩ : Box w1 w.heap.size 1 true n f s A l.length cap := hw1 ▸ Box.new w 1 true n f s A l.length cap _
  rw [← hw1]
  clear hw1
  have hi := Lib.hid ih
  have hp := Lib.hid hP
  clear ih hP
  go_upto_region 4 with fail
  go_cut [6] (fun a6 wx => a6 = .bool (f == 0) ∧ Below w1.heap.size w1 wx)
  case first =>
    clear hV' hi hp
    refine zero_cases _ hf (fun e1 e2 e3 e4 => ?_) (fun e1 e2 e3 => ?_) (fun e1 e2 => ?_)
    all_goals
      have hE := Lib.hid e1
      clear e1
      go_wp2_with ((with_reducible refine (cs _).mono ?_); rintro e w2 ⟨rfl, hb2⟩)
      ((with_reducible show Met _ _ _); refine Met.intro ?_; go_step; (repeat' apply Exists.intro); refine ⟨?_, rfl⟩)
      exact ⟨by rw [hE.out], by first | exact hb2 | exact Below.refl _ _⟩
  case rest =>
  obtain ⟨rfl, hbr⟩ := hcut
  have y0 := (hbr.cell (p := ⟨w.heap.size, 0, none⟩) x6).trans x0
  have y1 := (hbr.cell (p := ⟨w.heap.size, 1, none⟩) x6).trans x1
  have y2 := (hbr.cell (p := ⟨w.heap.size, 2, none⟩) x6).trans x2
  have y4 := (hbr.cell (p := ⟨w.heap.size, 4, none⟩) x6).trans x4
  have y5 := (hbr.cell (p := ⟨w.heap.size, 5, none⟩) x6).trans x5
  have y6 := Nat.lt_of_lt_of_le x6 hbr.size
  have bkr := bk.trans (hbr.mono bk.size)
  clear x0 x1 x2 x3 x4 x5 x6 hbr bk cs
  generalize wc = w2 at *
  obtain ⟨fz, hfz⟩ : ∃ fz, fz = (f == 0) := ⟨_, rfl⟩
  rw [← hfz]
  have hF := Lib.hid hfz
  clear hfz hf
  go_upto_region 6 with fail
  simp only [List.append_eq, List.cons_append, List.nil_append]
  rcases Classical.em (n = 0) with hn0 | hn0
  rotate_left
  · have hn1 : (n != 0) = true := by simpa using hn0
    have hsh : shape 1 true n f s l = false := by simp [shape, ← hF.out, hn0]
    have hS := Lib.hid hsh
    clear hsh hi hp
    go_wp2_with fail
    go_ret
    exact ⟨ret_int (by rw [hV'.out, if_neg h13, if_pos hS.out]), bkr⟩
  subst hn0
  cases fz
  · have hsh : shape 1 true 0 f s l = false := by simp [shape, ← hF.out]
    have hS := Lib.hid hsh
    clear hsh hi hp
    go_wp2_with fail
    go_ret
    exact ⟨ret_int (by rw [hV'.out, if_neg h13, if_pos hS.out]), bkr⟩
  cases s with
  | cons c s =>
    have hsh : shape 1 true 0 f (c :: s) l = false := by simp [shape, ← hF.out]
    have hS := Lib.hid hsh
    clear hsh hi hp
    go_wp2_with fail
    go_ret
    exact ⟨ret_int (by rw [hV'.out, if_neg h13, if_pos hS.out]), bkr⟩
  | nil =>
  rcases Classical.em (0 < l.length) with hl0 | hl0
  · have hl1 : (0 : Int) < l.length := by omega
    have hl2 := Lib.hid (show l ≠ [] by intro h; rw [h] at hl0; exact absurd hl0 (by simp))
    have hsh : shape 1 true 0 f [] l = false := by simp [shape, ← hF.out, hl2.out]
    have hS := Lib.hid hsh
    clear hsh hi hp
    go_wp2_with fail
    go_ret
    exact ⟨ret_int (by rw [hV'.out, if_neg h13, if_pos hS.out]), bkr⟩
  have hl2 : l = [] := List.eq_nil_of_length_eq_zero (by omega)
  subst hl2
  have hsh : shape 1 true 0 f [] [] = true := by simp [shape, ← hF.out]
  have hS := Lib.hid hsh
  clear hsh
  have y5 : w2.cell? ⟨w.heap.size, 5, none⟩ = some (.slice A 0 cap) := y5
  have hV2 := Lib.hid (show checkV (.mk 1 true 0 f [] []) d = 0 by rw [hV'.out, if_neg h13, if_neg (by rw [hS.out]; simp), if_neg (by simp)] <;> simp [checkVL])
  clear hi hp hS hV'
  go_wp2_with fail
  go_loopw [8] (fun a8 wr => a8 = .int .i64 0 ∧ wr = w2) (fun _ _ => 0)
  case atStart => exact ⟨rfl, rfl⟩
  case round =>
    obtain ⟨rfl, rfl⟩ := hrel
    go_wp2_with fail
    go_ret
    exact ⟨ret_int hV2.out.symm, bkr⟩

set_option maxRecDepth 8000 in
set_option maxHeartbeats 4000000 in
theorem rck1b (n : Int) (f : Nat) (s : List UInt8) (l : List Val) (A : Option Addr) (cap : Nat) (w : World) (d : Nat) (hf : U64 f) (hlb : l.length ≤ 140737488351232) (hl : l.length ≤ cap) (hP : Parts w A l) (hd : d ≤ 14) (h13 : ¬ 13 < d)
    (ih : ∀ (i : Nat) (x : Val), l[i]? = some x → ∀ (u : Value) (w : World) (d : Nat), Has w u x → d ≤ 14 → Calls Try.prog 44 #[u, .int .i64 d] w (IntEnds (checkV x d) w)) :
    Calls Try.prog 44 #[valV 1 false n f s A l.length cap, .int .i64 d] w (IntEnds (checkV (.mk 1 false n f s l) d) w) := by
  have hV' := Lib.hid (show checkV (.mk 1 false n f s l) d = (if 13 < d then 3 else if shape 1 false n f s l = false then 6 else if 500 < s.length ∨ 1000 < l.length then 3 else if checkVL l (d + 1) ≠ 0 then checkVL l (d + 1) else if (1 : Int) = 6 ∧ risesV l = false then 6 else 0) by rw [checkV])
  have cs : ∀ w : World, Calls Try.prog 56 #[.float .f64 f] w fun e w' => e = .returned (.bool (Fl.neg f)) ∧ Below w.heap.size w w' := fun w => (signbit_c f w hf).mono fun e w' ⟨h1, h2⟩ => ⟨h1, h2 ▸ Below.refl _ _⟩
  have h13' : ¬ (13 : Int) < d := by omega
  go_enter Try.func44, Try.ntmps44
  go_upto_region 1 with fail
  obtain ⟨w1, hw1⟩ : ∃ w1, w1 = w.alloc (.cells #[.int .i64 1, .bool false, .int .i64 n, .float .f64 f, .string (st s), .slice A l.length cap] 31) := ⟨_, rfl⟩
  have bk : Below w.heap.size w w1 := hw1 ▸ below_alloc w _
  obtain ⟨x6, x0, x1, x2, x3, x4, x5⟩ : Box w1 w.heap.size 1 false n f s A l.length cap := hw1 ▸ Box.new w 1 false n f s A l.length cap _
  rw [← hw1]
  clear hw1
  have hi := Lib.hid ih
  have hp := Lib.hid hP
  clear ih hP
  go_upto_region 4 with fail
  go_cut [6] (fun a6 wx => a6 = .bool (f == 0) ∧ Below w1.heap.size w1 wx)
  case first =>
    clear hV' hi hp
    refine zero_cases _ hf (fun e1 e2 e3 e4 => ?_) (fun e1 e2 e3 => ?_) (fun e1 e2 => ?_)
    all_goals
      have hE := Lib.hid e1
      clear e1
      go_wp2_with ((with_reducible refine (cs _).mono ?_); rintro e w2 ⟨rfl, hb2⟩)
      ((with_reducible show Met _ _ _); refine Met.intro ?_; go_step; (repeat' apply Exists.intro); refine ⟨?_, rfl⟩)
      exact ⟨by rw [hE.out], by first | exact hb2 | exact Below.refl _ _⟩
  case rest =>
  obtain ⟨rfl, hbr⟩ := hcut
  have y0 := (hbr.cell (p := ⟨w.heap.size, 0, none⟩) x6).trans x0
  have y1 := (hbr.cell (p := ⟨w.heap.size, 1, none⟩) x6).trans x1
  have y2 := (hbr.cell (p := ⟨w.heap.size, 2, none⟩) x6).trans x2
  have y4 := (hbr.cell (p := ⟨w.heap.size, 4, none⟩) x6).trans x4
  have y5 := (hbr.cell (p := ⟨w.heap.size, 5, none⟩) x6).trans x5
  have y6 := Nat.lt_of_lt_of_le x6 hbr.size
  have bkr := bk.trans (hbr.mono bk.size)
  clear x0 x1 x2 x3 x4 x5 x6 hbr bk cs
  generalize wc = w2 at *
  obtain ⟨fz, hfz⟩ : ∃ fz, fz = (f == 0) := ⟨_, rfl⟩
  rw [← hfz]
  have hF := Lib.hid hfz
  clear hfz hf
  go_upto_region 6 with fail
  simp only [List.append_eq, List.cons_append, List.nil_append]
  rcases Classical.em (n = 0) with hn0 | hn0
  rotate_left
  · have hn1 : (n != 0) = true := by simpa using hn0
    have hsh : shape 1 false n f s l = false := by simp [shape, ← hF.out, hn0]
    have hS := Lib.hid hsh
    clear hsh hi hp
    go_wp2_with fail
    go_ret
    exact ⟨ret_int (by rw [hV'.out, if_neg h13, if_pos hS.out]), bkr⟩
  subst hn0
  cases fz
  · have hsh : shape 1 false 0 f s l = false := by simp [shape, ← hF.out]
    have hS := Lib.hid hsh
    clear hsh hi hp
    go_wp2_with fail
    go_ret
    exact ⟨ret_int (by rw [hV'.out, if_neg h13, if_pos hS.out]), bkr⟩
  cases s with
  | cons c s =>
    have hsh : shape 1 false 0 f (c :: s) l = false := by simp [shape, ← hF.out]
    have hS := Lib.hid hsh
    clear hsh hi hp
    go_wp2_with fail
    go_ret
    exact ⟨ret_int (by rw [hV'.out, if_neg h13, if_pos hS.out]), bkr⟩
  | nil =>
  rcases Classical.em (0 < l.length) with hl0 | hl0
  · have hl1 : (0 : Int) < l.length := by omega
    have hl2 := Lib.hid (show l ≠ [] by intro h; rw [h] at hl0; exact absurd hl0 (by simp))
    have hsh : shape 1 false 0 f [] l = false := by simp [shape, ← hF.out, hl2.out]
    have hS := Lib.hid hsh
    clear hsh hi hp
    go_wp2_with fail
    go_ret
    exact ⟨ret_int (by rw [hV'.out, if_neg h13, if_pos hS.out]), bkr⟩
  have hl2 : l = [] := List.eq_nil_of_length_eq_zero (by omega)
  subst hl2
  have hsh : shape 1 false 0 f [] [] = true := by simp [shape, ← hF.out]
  have hS := Lib.hid hsh
  clear hsh
  have y5 : w2.cell? ⟨w.heap.size, 5, none⟩ = some (.slice A 0 cap) := y5
  have hV2 := Lib.hid (show checkV (.mk 1 false 0 f [] []) d = 0 by rw [hV'.out, if_neg h13, if_neg (by rw [hS.out]; simp), if_neg (by simp)] <;> simp [checkVL])
  clear hi hp hS hV'
  go_wp2_with fail
  go_loopw [8] (fun a8 wr => a8 = .int .i64 0 ∧ wr = w2) (fun _ _ => 0)
  case atStart => exact ⟨rfl, rfl⟩
  case round =>
    obtain ⟨rfl, rfl⟩ := hrel
    go_wp2_with fail
    go_ret
    exact ⟨ret_int hV2.out.symm, bkr⟩

set_option maxRecDepth 8000 in
set_option maxHeartbeats 4000000 in
theorem rck2a (b : Bool) (f : Nat) (s : List UInt8) (l : List Val) (A : Option Addr) (cap : Nat) (w : World) (d : Nat) (hf : U64 f) (hlb : l.length ≤ 140737488351232) (hl : l.length ≤ cap) (hP : Parts w A l) (hd : d ≤ 14) (h13 : ¬ 13 < d)
    (ih : ∀ (i : Nat) (x : Val), l[i]? = some x → ∀ (u : Value) (w : World) (d : Nat), Has w u x → d ≤ 14 → Calls Try.prog 44 #[u, .int .i64 d] w (IntEnds (checkV x d) w)) :
    Calls Try.prog 44 #[valV 2 b 0 f s A l.length cap, .int .i64 d] w (IntEnds (checkV (.mk 2 b 0 f s l) d) w) := by
  have hV' := Lib.hid (show checkV (.mk 2 b 0 f s l) d = (if 13 < d then 3 else if shape 2 b 0 f s l = false then 6 else if 500 < s.length ∨ 1000 < l.length then 3 else if checkVL l (d + 1) ≠ 0 then checkVL l (d + 1) else if (2 : Int) = 6 ∧ risesV l = false then 6 else 0) by rw [checkV])
  have cs : ∀ w : World, Calls Try.prog 56 #[.float .f64 f] w fun e w' => e = .returned (.bool (Fl.neg f)) ∧ Below w.heap.size w w' := fun w => (signbit_c f w hf).mono fun e w' ⟨h1, h2⟩ => ⟨h1, h2 ▸ Below.refl _ _⟩
  have h13' : ¬ (13 : Int) < d := by omega
  go_enter Try.func44, Try.ntmps44
  go_upto_region 1 with fail
  obtain ⟨w1, hw1⟩ : ∃ w1, w1 = w.alloc (.cells #[.int .i64 2, .bool b, .int .i64 0, .float .f64 f, .string (st s), .slice A l.length cap] 31) := ⟨_, rfl⟩
  have bk : Below w.heap.size w w1 := hw1 ▸ below_alloc w _
  obtain ⟨x6, x0, x1, x2, x3, x4, x5⟩ : Box w1 w.heap.size 2 b 0 f s A l.length cap := hw1 ▸ Box.new w 2 b 0 f s A l.length cap _
  rw [← hw1]
  clear hw1
  have hi := Lib.hid ih
  have hp := Lib.hid hP
  clear ih hP
  go_upto_region 4 with fail
  go_cut [6] (fun a6 wx => a6 = .bool (f == 0) ∧ Below w1.heap.size w1 wx)
  case first =>
    clear hV' hi hp
    refine zero_cases _ hf (fun e1 e2 e3 e4 => ?_) (fun e1 e2 e3 => ?_) (fun e1 e2 => ?_)
    all_goals
      have hE := Lib.hid e1
      clear e1
      go_wp2_with ((with_reducible refine (cs _).mono ?_); rintro e w2 ⟨rfl, hb2⟩)
      ((with_reducible show Met _ _ _); refine Met.intro ?_; go_step; (repeat' apply Exists.intro); refine ⟨?_, rfl⟩)
      exact ⟨by rw [hE.out], by first | exact hb2 | exact Below.refl _ _⟩
  case rest =>
  obtain ⟨rfl, hbr⟩ := hcut
  have y0 := (hbr.cell (p := ⟨w.heap.size, 0, none⟩) x6).trans x0
  have y1 := (hbr.cell (p := ⟨w.heap.size, 1, none⟩) x6).trans x1
  have y2 := (hbr.cell (p := ⟨w.heap.size, 2, none⟩) x6).trans x2
  have y4 := (hbr.cell (p := ⟨w.heap.size, 4, none⟩) x6).trans x4
  have y5 := (hbr.cell (p := ⟨w.heap.size, 5, none⟩) x6).trans x5
  have y6 := Nat.lt_of_lt_of_le x6 hbr.size
  have bkr := bk.trans (hbr.mono bk.size)
  clear x0 x1 x2 x3 x4 x5 x6 hbr bk cs
  generalize wc = w2 at *
  obtain ⟨fz, hfz⟩ : ∃ fz, fz = (f == 0) := ⟨_, rfl⟩
  rw [← hfz]
  have hF := Lib.hid hfz
  clear hfz hf
  go_upto_region 6 with fail
  simp only [List.append_eq, List.cons_append, List.nil_append]
  rcases Bool.eq_false_or_eq_true b with hb | hb
  · subst hb
    have hsh : shape 2 true 0 f s l = false := by simp [shape, ← hF.out]
    have hS := Lib.hid hsh
    clear hsh hi hp
    go_wp2_with fail
    go_ret
    exact ⟨ret_int (by rw [hV'.out, if_neg h13, if_pos hS.out]), bkr⟩
  subst hb
  cases fz
  · have hsh : shape 2 false 0 f s l = false := by simp [shape, ← hF.out]
    have hS := Lib.hid hsh
    clear hsh hi hp
    go_wp2_with fail
    go_ret
    exact ⟨ret_int (by rw [hV'.out, if_neg h13, if_pos hS.out]), bkr⟩
  cases s with
  | cons c s =>
    have hsh : shape 2 false 0 f (c :: s) l = false := by simp [shape, ← hF.out]
    have hS := Lib.hid hsh
    clear hsh hi hp
    go_wp2_with fail
    go_ret
    exact ⟨ret_int (by rw [hV'.out, if_neg h13, if_pos hS.out]), bkr⟩
  | nil =>
  rcases Classical.em (0 < l.length) with hl0 | hl0
  · have hl1 : (0 : Int) < l.length := by omega
    have hl2 := Lib.hid (show l ≠ [] by intro h; rw [h] at hl0; exact absurd hl0 (by simp))
    have hsh : shape 2 false 0 f [] l = false := by simp [shape, ← hF.out, hl2.out]
    have hS := Lib.hid hsh
    clear hsh hi hp
    go_wp2_with fail
    go_ret
    exact ⟨ret_int (by rw [hV'.out, if_neg h13, if_pos hS.out]), bkr⟩
  have hl2 : l = [] := List.eq_nil_of_length_eq_zero (by omega)
  subst hl2
  have hsh : shape 2 false 0 f [] [] = true := by simp [shape, ← hF.out]
  have hS := Lib.hid hsh
  clear hsh
  have y5 : w2.cell? ⟨w.heap.size, 5, none⟩ = some (.slice A 0 cap) := y5
  have hV2 := Lib.hid (show checkV (.mk 2 false 0 f [] []) d = 0 by rw [hV'.out, if_neg h13, if_neg (by rw [hS.out]; simp), if_neg (by simp)] <;> simp [checkVL])
  clear hi hp hS hV'
  go_wp2_with fail
  go_loopw [8] (fun a8 wr => a8 = .int .i64 0 ∧ wr = w2) (fun _ _ => 0)
  case atStart => exact ⟨rfl, rfl⟩
  case round =>
    obtain ⟨rfl, rfl⟩ := hrel
    go_wp2_with fail
    go_ret
    exact ⟨ret_int hV2.out.symm, bkr⟩

set_option maxRecDepth 8000 in
set_option maxHeartbeats 4000000 in
theorem rck2b (b : Bool) (n : Int) (f : Nat) (s : List UInt8) (l : List Val) (A : Option Addr) (cap : Nat) (w : World) (d : Nat) (hf : U64 f) (hlb : l.length ≤ 140737488351232) (hl : l.length ≤ cap) (hP : Parts w A l) (hd : d ≤ 14) (h13 : ¬ 13 < d) (hn0 : ¬ n = 0)
    (ih : ∀ (i : Nat) (x : Val), l[i]? = some x → ∀ (u : Value) (w : World) (d : Nat), Has w u x → d ≤ 14 → Calls Try.prog 44 #[u, .int .i64 d] w (IntEnds (checkV x d) w)) :
    Calls Try.prog 44 #[valV 2 b n f s A l.length cap, .int .i64 d] w (IntEnds (checkV (.mk 2 b n f s l) d) w) := by
  have hV' := Lib.hid (show checkV (.mk 2 b n f s l) d = (if 13 < d then 3 else if shape 2 b n f s l = false then 6 else if 500 < s.length ∨ 1000 < l.length then 3 else if checkVL l (d + 1) ≠ 0 then checkVL l (d + 1) else if (2 : Int) = 6 ∧ risesV l = false then 6 else 0) by rw [checkV])
  have cs : ∀ w : World, Calls Try.prog 56 #[.float .f64 f] w fun e w' => e = .returned (.bool (Fl.neg f)) ∧ Below w.heap.size w w' := fun w => (signbit_c f w hf).mono fun e w' ⟨h1, h2⟩ => ⟨h1, h2 ▸ Below.refl _ _⟩
  have hn1 : (n != 0) = true := by simpa using hn0
  have h13' : ¬ (13 : Int) < d := by omega
  go_enter Try.func44, Try.ntmps44
  go_upto_region 1 with fail
  obtain ⟨w1, hw1⟩ : ∃ w1, w1 = w.alloc (.cells #[.int .i64 2, .bool b, .int .i64 n, .float .f64 f, .string (st s), .slice A l.length cap] 31) := ⟨_, rfl⟩
  have bk : Below w.heap.size w w1 := hw1 ▸ below_alloc w _
  obtain ⟨x6, x0, x1, x2, x3, x4, x5⟩ : Box w1 w.heap.size 2 b n f s A l.length cap := hw1 ▸ Box.new w 2 b n f s A l.length cap _
  rw [← hw1]
  clear hw1
  have hi := Lib.hid ih
  have hp := Lib.hid hP
  clear ih hP
  go_upto_region 4 with fail
  go_cut [6] (fun a6 wx => a6 = .bool (f == 0) ∧ Below w1.heap.size w1 wx)
  case first =>
    clear hV' hi hp
    refine zero_cases _ hf (fun e1 e2 e3 e4 => ?_) (fun e1 e2 e3 => ?_) (fun e1 e2 => ?_)
    all_goals
      have hE := Lib.hid e1
      clear e1
      go_wp2_with ((with_reducible refine (cs _).mono ?_); rintro e w2 ⟨rfl, hb2⟩)
      ((with_reducible show Met _ _ _); refine Met.intro ?_; go_step; (repeat' apply Exists.intro); refine ⟨?_, rfl⟩)
      exact ⟨by rw [hE.out], by first | exact hb2 | exact Below.refl _ _⟩
  case rest =>
  obtain ⟨rfl, hbr⟩ := hcut
  have y0 := (hbr.cell (p := ⟨w.heap.size, 0, none⟩) x6).trans x0
  have y1 := (hbr.cell (p := ⟨w.heap.size, 1, none⟩) x6).trans x1
  have y2 := (hbr.cell (p := ⟨w.heap.size, 2, none⟩) x6).trans x2
  have y4 := (hbr.cell (p := ⟨w.heap.size, 4, none⟩) x6).trans x4
  have y5 := (hbr.cell (p := ⟨w.heap.size, 5, none⟩) x6).trans x5
  have y6 := Nat.lt_of_lt_of_le x6 hbr.size
  have bkr := bk.trans (hbr.mono bk.size)
  clear x0 x1 x2 x3 x4 x5 x6 hbr bk cs
  generalize wc = w2 at *
  obtain ⟨fz, hfz⟩ : ∃ fz, fz = (f == 0) := ⟨_, rfl⟩
  rw [← hfz]
  have hF := Lib.hid hfz
  clear hfz hf
  go_upto_region 6 with fail
  simp only [List.append_eq, List.cons_append, List.nil_append]
  rcases Bool.eq_false_or_eq_true b with hb | hb
  · subst hb
    have hsh : shape 2 true n f s l = false := by simp [shape, ← hF.out]
    have hS := Lib.hid hsh
    clear hsh hi hp
    go_wp2_with fail
    go_ret
    exact ⟨ret_int (by rw [hV'.out, if_neg h13, if_pos hS.out]), bkr⟩
  subst hb
  cases fz
  · have hsh : shape 2 false n f s l = false := by simp [shape, ← hF.out]
    have hS := Lib.hid hsh
    clear hsh hi hp
    go_wp2_with fail
    go_ret
    exact ⟨ret_int (by rw [hV'.out, if_neg h13, if_pos hS.out]), bkr⟩
  cases s with
  | cons c s =>
    have hsh : shape 2 false n f (c :: s) l = false := by simp [shape, ← hF.out]
    have hS := Lib.hid hsh
    clear hsh hi hp
    go_wp2_with fail
    go_ret
    exact ⟨ret_int (by rw [hV'.out, if_neg h13, if_pos hS.out]), bkr⟩
  | nil =>
  rcases Classical.em (0 < l.length) with hl0 | hl0
  · have hl1 : (0 : Int) < l.length := by omega
    have hl2 := Lib.hid (show l ≠ [] by intro h; rw [h] at hl0; exact absurd hl0 (by simp))
    have hsh : shape 2 false n f [] l = false := by simp [shape, ← hF.out, hl2.out]
    have hS := Lib.hid hsh
    clear hsh hi hp
    go_wp2_with fail
    go_ret
    exact ⟨ret_int (by rw [hV'.out, if_neg h13, if_pos hS.out]), bkr⟩
  have hl2 : l = [] := List.eq_nil_of_length_eq_zero (by omega)
  subst hl2
  have hsh : shape 2 false n f [] [] = true := by simp [shape, ← hF.out]
  have hS := Lib.hid hsh
  clear hsh
  have y5 : w2.cell? ⟨w.heap.size, 5, none⟩ = some (.slice A 0 cap) := y5
  have hV2 := Lib.hid (show checkV (.mk 2 false n f [] []) d = 0 by rw [hV'.out, if_neg h13, if_neg (by rw [hS.out]; simp), if_neg (by simp)] <;> simp [checkVL])
  clear hi hp hS hV'
  go_wp2_with fail
  go_loopw [8] (fun a8 wr => a8 = .int .i64 0 ∧ wr = w2) (fun _ _ => 0)
  case atStart => exact ⟨rfl, rfl⟩
  case round =>
    obtain ⟨rfl, rfl⟩ := hrel
    go_wp2_with fail
    go_ret
    exact ⟨ret_int hV2.out.symm, bkr⟩

set_option maxRecDepth 8000 in
set_option maxHeartbeats 4000000 in
theorem rck3a (b : Bool) (n : Int) (f : Nat) (s : List UInt8) (l : List Val) (A : Option Addr) (cap : Nat) (w : World) (d : Nat) (hf : U64 f) (hlb : l.length ≤ 140737488351232) (hl : l.length ≤ cap) (hP : Parts w A l) (hd : d ≤ 14) (h13 : ¬ 13 < d) (hz : (f == 0) = true)
    (ih : ∀ (i : Nat) (x : Val), l[i]? = some x → ∀ (u : Value) (w : World) (d : Nat), Has w u x → d ≤ 14 → Calls Try.prog 44 #[u, .int .i64 d] w (IntEnds (checkV x d) w)) :
    Calls Try.prog 44 #[valV 3 b n f s A l.length cap, .int .i64 d] w (IntEnds (checkV (.mk 3 b n f s l) d) w) := by
  have hV' := Lib.hid (show checkV (.mk 3 b n f s l) d = (if 13 < d then 3 else if shape 3 b n f s l = false then 6 else if 500 < s.length ∨ 1000 < l.length then 3 else if checkVL l (d + 1) ≠ 0 then checkVL l (d + 1) else if (3 : Int) = 6 ∧ risesV l = false then 6 else 0) by rw [checkV])
  have cs : ∀ w : World, Calls Try.prog 56 #[.float .f64 f] w fun e w' => e = .returned (.bool (Fl.neg f)) ∧ Below w.heap.size w w' := fun w => (signbit_c f w hf).mono fun e w' ⟨h1, h2⟩ => ⟨h1, h2 ▸ Below.refl _ _⟩
  have h13' : ¬ (13 : Int) < d := by omega
  go_enter Try.func44, Try.ntmps44
  go_upto_region 1 with fail
  obtain ⟨w1, hw1⟩ : ∃ w1, w1 = w.alloc (.cells #[.int .i64 3, .bool b, .int .i64 n, .float .f64 f, .string (st s), .slice A l.length cap] 31) := ⟨_, rfl⟩
  have bk : Below w.heap.size w w1 := hw1 ▸ below_alloc w _
  obtain ⟨x6, x0, x1, x2, x3, x4, x5⟩ : Box w1 w.heap.size 3 b n f s A l.length cap := hw1 ▸ Box.new w 3 b n f s A l.length cap _
  rw [← hw1]
  clear hw1
  have hi := Lib.hid ih
  have hp := Lib.hid hP
  clear ih hP
  go_upto_region 4 with fail
  go_cut [6] (fun a6 wx => a6 = .bool (f == 0) ∧ Below w1.heap.size w1 wx)
  case first =>
    clear hV' hi hp
    refine zero_cases _ hf (fun e1 e2 e3 e4 => ?_) (fun e1 e2 e3 => ?_) (fun e1 e2 => ?_)
    all_goals
      have hE := Lib.hid e1
      clear e1
      go_wp2_with ((with_reducible refine (cs _).mono ?_); rintro e w2 ⟨rfl, hb2⟩)
      ((with_reducible show Met _ _ _); refine Met.intro ?_; go_step; (repeat' apply Exists.intro); refine ⟨?_, rfl⟩)
      exact ⟨by rw [hE.out], by first | exact hb2 | exact Below.refl _ _⟩
  case rest =>
  obtain ⟨rfl, hbr⟩ := hcut
  have y0 := (hbr.cell (p := ⟨w.heap.size, 0, none⟩) x6).trans x0
  have y1 := (hbr.cell (p := ⟨w.heap.size, 1, none⟩) x6).trans x1
  have y2 := (hbr.cell (p := ⟨w.heap.size, 2, none⟩) x6).trans x2
  have y4 := (hbr.cell (p := ⟨w.heap.size, 4, none⟩) x6).trans x4
  have y5 := (hbr.cell (p := ⟨w.heap.size, 5, none⟩) x6).trans x5
  have y6 := Nat.lt_of_lt_of_le x6 hbr.size
  have bkr := bk.trans (hbr.mono bk.size)
  clear x0 x1 x2 x3 x4 x5 x6 hbr bk cs
  generalize wc = w2 at *
  obtain ⟨fz, hfz⟩ : ∃ fz, fz = (f == 0) := ⟨_, rfl⟩
  rw [← hfz]
  obtain rfl : fz = true := hfz.trans hz
  clear hz
  have hF := Lib.hid hfz
  clear hfz hf
  go_upto_region 6 with fail
  simp only [List.append_eq, List.cons_append, List.nil_append]
  rcases Bool.eq_false_or_eq_true b with hb | hb
  · subst hb
    have hsh : shape 3 true n f s l = false := by simp [shape, ← hF.out]
    have hS := Lib.hid hsh
    clear hsh hi hp
    go_wp2_with fail
    go_ret
    exact ⟨ret_int (by rw [hV'.out, if_neg h13, if_pos hS.out]), bkr⟩
  subst hb
  rcases Classical.em (n = 0) with hn0 | hn0
  rotate_left
  · have hn1 : (n != 0) = true := by simpa using hn0
    have hsh : shape 3 false n f s l = false := by simp [shape, ← hF.out, hn0]
    have hS := Lib.hid hsh
    clear hsh hi hp
    go_wp2_with fail
    go_ret
    exact ⟨ret_int (by rw [hV'.out, if_neg h13, if_pos hS.out]), bkr⟩
  subst hn0
  cases s with
  | cons c s =>
    have hsh : shape 3 false 0 f (c :: s) l = false := by simp [shape, ← hF.out]
    have hS := Lib.hid hsh
    clear hsh hi hp
    go_wp2_with fail
    go_ret
    exact ⟨ret_int (by rw [hV'.out, if_neg h13, if_pos hS.out]), bkr⟩
  | nil =>
  rcases Classical.em (0 < l.length) with hl0 | hl0
  · have hl1 : (0 : Int) < l.length := by omega
    have hl2 := Lib.hid (show l ≠ [] by intro h; rw [h] at hl0; exact absurd hl0 (by simp))
    have hsh : shape 3 false 0 f [] l = false := by simp [shape, ← hF.out, hl2.out]
    have hS := Lib.hid hsh
    clear hsh hi hp
    go_wp2_with fail
    go_ret
    exact ⟨ret_int (by rw [hV'.out, if_neg h13, if_pos hS.out]), bkr⟩
  have hl2 : l = [] := List.eq_nil_of_length_eq_zero (by omega)
  subst hl2
  have hsh : shape 3 false 0 f [] [] = true := by simp [shape, ← hF.out]
  have hS := Lib.hid hsh
  clear hsh
  have y5 : w2.cell? ⟨w.heap.size, 5, none⟩ = some (.slice A 0 cap) := y5
  have hV2 := Lib.hid (show checkV (.mk 3 false 0 f [] []) d = 0 by rw [hV'.out, if_neg h13, if_neg (by rw [hS.out]; simp), if_neg (by simp)] <;> simp [checkVL])
  clear hi hp hS hV'
  go_wp2_with fail
  go_loopw [8] (fun a8 wr => a8 = .int .i64 0 ∧ wr = w2) (fun _ _ => 0)
  case atStart => exact ⟨rfl, rfl⟩
  case round =>
    obtain ⟨rfl, rfl⟩ := hrel
    go_wp2_with fail
    go_ret
    exact ⟨ret_int hV2.out.symm, bkr⟩

set_option maxRecDepth 8000 in
set_option maxHeartbeats 4000000 in
theorem rck3b (b : Bool) (n : Int) (f : Nat) (s : List UInt8) (l : List Val) (A : Option Addr) (cap : Nat) (w : World) (d : Nat) (hf : U64 f) (hlb : l.length ≤ 140737488351232) (hl : l.length ≤ cap) (hP : Parts w A l) (hd : d ≤ 14) (h13 : ¬ 13 < d) (hz : (f == 0) = false)
    (ih : ∀ (i : Nat) (x : Val), l[i]? = some x → ∀ (u : Value) (w : World) (d : Nat), Has w u x → d ≤ 14 → Calls Try.prog 44 #[u, .int .i64 d] w (IntEnds (checkV x d) w)) :
    Calls Try.prog 44 #[valV 3 b n f s A l.length cap, .int .i64 d] w (IntEnds (checkV (.mk 3 b n f s l) d) w) := by
  have hV' := Lib.hid (show checkV (.mk 3 b n f s l) d = (if 13 < d then 3 else if shape 3 b n f s l = false then 6 else if 500 < s.length ∨ 1000 < l.length then 3 else if checkVL l (d + 1) ≠ 0 then checkVL l (d + 1) else if (3 : Int) = 6 ∧ risesV l = false then 6 else 0) by rw [checkV])
  have cs : ∀ w : World, Calls Try.prog 56 #[.float .f64 f] w fun e w' => e = .returned (.bool (Fl.neg f)) ∧ Below w.heap.size w w' := fun w => (signbit_c f w hf).mono fun e w' ⟨h1, h2⟩ => ⟨h1, h2 ▸ Below.refl _ _⟩
  have h13' : ¬ (13 : Int) < d := by omega
  go_enter Try.func44, Try.ntmps44
  go_upto_region 1 with fail
  obtain ⟨w1, hw1⟩ : ∃ w1, w1 = w.alloc (.cells #[.int .i64 3, .bool b, .int .i64 n, .float .f64 f, .string (st s), .slice A l.length cap] 31) := ⟨_, rfl⟩
  have bk : Below w.heap.size w w1 := hw1 ▸ below_alloc w _
  obtain ⟨x6, x0, x1, x2, x3, x4, x5⟩ : Box w1 w.heap.size 3 b n f s A l.length cap := hw1 ▸ Box.new w 3 b n f s A l.length cap _
  rw [← hw1]
  clear hw1
  have hi := Lib.hid ih
  have hp := Lib.hid hP
  clear ih hP
  go_upto_region 4 with fail
  go_cut [6] (fun a6 wx => a6 = .bool (f == 0) ∧ Below w1.heap.size w1 wx)
  case first =>
    clear hV' hi hp
    refine zero_cases _ hf (fun e1 e2 e3 e4 => ?_) (fun e1 e2 e3 => ?_) (fun e1 e2 => ?_)
    all_goals
      have hE := Lib.hid e1
      clear e1
      go_wp2_with ((with_reducible refine (cs _).mono ?_); rintro e w2 ⟨rfl, hb2⟩)
      ((with_reducible show Met _ _ _); refine Met.intro ?_; go_step; (repeat' apply Exists.intro); refine ⟨?_, rfl⟩)
      exact ⟨by rw [hE.out], by first | exact hb2 | exact Below.refl _ _⟩
  case rest =>
  obtain ⟨rfl, hbr⟩ := hcut
  have y0 := (hbr.cell (p := ⟨w.heap.size, 0, none⟩) x6).trans x0
  have y1 := (hbr.cell (p := ⟨w.heap.size, 1, none⟩) x6).trans x1
  have y2 := (hbr.cell (p := ⟨w.heap.size, 2, none⟩) x6).trans x2
  have y4 := (hbr.cell (p := ⟨w.heap.size, 4, none⟩) x6).trans x4
  have y5 := (hbr.cell (p := ⟨w.heap.size, 5, none⟩) x6).trans x5
  have y6 := Nat.lt_of_lt_of_le x6 hbr.size
  have bkr := bk.trans (hbr.mono bk.size)
  clear x0 x1 x2 x3 x4 x5 x6 hbr bk cs
  generalize wc = w2 at *
  obtain ⟨fz, hfz⟩ : ∃ fz, fz = (f == 0) := ⟨_, rfl⟩
  rw [← hfz]
  obtain rfl : fz = false := hfz.trans hz
  clear hz
  have hF := Lib.hid hfz
  clear hfz hf
  go_upto_region 6 with fail
  simp only [List.append_eq, List.cons_append, List.nil_append]
  rcases Bool.eq_false_or_eq_true b with hb | hb
  · subst hb
    have hsh : shape 3 true n f s l = false := by simp [shape, ← hF.out]
    have hS := Lib.hid hsh
    clear hsh hi hp
    go_wp2_with fail
    go_ret
    exact ⟨ret_int (by rw [hV'.out, if_neg h13, if_pos hS.out]), bkr⟩
  subst hb
  rcases Classical.em (n = 0) with hn0 | hn0
  rotate_left
  · have hn1 : (n != 0) = true := by simpa using hn0
    have hsh : shape 3 false n f s l = false := by simp [shape, ← hF.out, hn0]
    have hS := Lib.hid hsh
    clear hsh hi hp
    go_wp2_with fail
    go_ret
    exact ⟨ret_int (by rw [hV'.out, if_neg h13, if_pos hS.out]), bkr⟩
  subst hn0
  cases s with
  | cons c s =>
    have hsh : shape 3 false 0 f (c :: s) l = false := by simp [shape, ← hF.out]
    have hS := Lib.hid hsh
    clear hsh hi hp
    go_wp2_with fail
    go_ret
    exact ⟨ret_int (by rw [hV'.out, if_neg h13, if_pos hS.out]), bkr⟩
  | nil =>
  rcases Classical.em (0 < l.length) with hl0 | hl0
  · have hl1 : (0 : Int) < l.length := by omega
    have hl2 := Lib.hid (show l ≠ [] by intro h; rw [h] at hl0; exact absurd hl0 (by simp))
    have hsh : shape 3 false 0 f [] l = false := by simp [shape, ← hF.out, hl2.out]
    have hS := Lib.hid hsh
    clear hsh hi hp
    go_wp2_with fail
    go_ret
    exact ⟨ret_int (by rw [hV'.out, if_neg h13, if_pos hS.out]), bkr⟩
  have hl2 : l = [] := List.eq_nil_of_length_eq_zero (by omega)
  subst hl2
  have hsh : shape 3 false 0 f [] [] = true := by simp [shape, ← hF.out]
  have hS := Lib.hid hsh
  clear hsh
  have y5 : w2.cell? ⟨w.heap.size, 5, none⟩ = some (.slice A 0 cap) := y5
  have hV2 := Lib.hid (show checkV (.mk 3 false 0 f [] []) d = 0 by rw [hV'.out, if_neg h13, if_neg (by rw [hS.out]; simp), if_neg (by simp)] <;> simp [checkVL])
  clear hi hp hS hV'
  go_wp2_with fail
  go_loopw [8] (fun a8 wr => a8 = .int .i64 0 ∧ wr = w2) (fun _ _ => 0)
  case atStart => exact ⟨rfl, rfl⟩
  case round =>
    obtain ⟨rfl, rfl⟩ := hrel
    go_wp2_with fail
    go_ret
    exact ⟨ret_int hV2.out.symm, bkr⟩

set_option maxRecDepth 8000 in
set_option maxHeartbeats 4000000 in
theorem rck4a (b : Bool) (n : Int) (f : Nat) (l : List Val) (A : Option Addr) (cap : Nat) (w : World) (d : Nat) (hf : U64 f) (hlb : l.length ≤ 140737488351232) (hl : l.length ≤ cap) (hP : Parts w A l) (hd : d ≤ 14) (h13 : ¬ 13 < d)
    (ih : ∀ (i : Nat) (x : Val), l[i]? = some x → ∀ (u : Value) (w : World) (d : Nat), Has w u x → d ≤ 14 → Calls Try.prog 44 #[u, .int .i64 d] w (IntEnds (checkV x d) w)) :
    Calls Try.prog 44 #[valV 4 b n f [] A l.length cap, .int .i64 d] w (IntEnds (checkV (.mk 4 b n f [] l) d) w) := by
  have hV' := Lib.hid (show checkV (.mk 4 b n f [] l) d = (if 13 < d then 3 else if shape 4 b n f [] l = false then 6 else if 500 < ([] : List UInt8).length ∨ 1000 < l.length then 3 else if checkVL l (d + 1) ≠ 0 then checkVL l (d + 1) else if (4 : Int) = 6 ∧ risesV l = false then 6 else 0) by rw [checkV])
  have cs : ∀ w : World, Calls Try.prog 56 #[.float .f64 f] w fun e w' => e = .returned (.bool (Fl.neg f)) ∧ Below w.heap.size w w' := fun w => (signbit_c f w hf).mono fun e w' ⟨h1, h2⟩ => ⟨h1, h2 ▸ Below.refl _ _⟩
  have h13' : ¬ (13 : Int) < d := by omega
  go_enter Try.func44, Try.ntmps44
  go_upto_region 1 with fail
  obtain ⟨w1, hw1⟩ : ∃ w1, w1 = w.alloc (.cells #[.int .i64 4, .bool b, .int .i64 n, .float .f64 f, .string (st []), .slice A l.length cap] 31) := ⟨_, rfl⟩
  have bk : Below w.heap.size w w1 := hw1 ▸ below_alloc w _
  obtain ⟨x6, x0, x1, x2, x3, x4, x5⟩ : Box w1 w.heap.size 4 b n f [] A l.length cap := hw1 ▸ Box.new w 4 b n f [] A l.length cap _
  rw [← hw1]
  clear hw1
  have hi := Lib.hid ih
  have hp := Lib.hid hP
  clear ih hP
  go_upto_region 4 with fail
  go_cut [6] (fun a6 wx => a6 = .bool (f == 0) ∧ Below w1.heap.size w1 wx)
  case first =>
    clear hV' hi hp
    refine zero_cases _ hf (fun e1 e2 e3 e4 => ?_) (fun e1 e2 e3 => ?_) (fun e1 e2 => ?_)
    all_goals
      have hE := Lib.hid e1
      clear e1
      go_wp2_with ((with_reducible refine (cs _).mono ?_); rintro e w2 ⟨rfl, hb2⟩)
      ((with_reducible show Met _ _ _); refine Met.intro ?_; go_step; (repeat' apply Exists.intro); refine ⟨?_, rfl⟩)
      exact ⟨by rw [hE.out], by first | exact hb2 | exact Below.refl _ _⟩
  case rest =>
  obtain ⟨rfl, hbr⟩ := hcut
  have y0 := (hbr.cell (p := ⟨w.heap.size, 0, none⟩) x6).trans x0
  have y1 := (hbr.cell (p := ⟨w.heap.size, 1, none⟩) x6).trans x1
  have y2 := (hbr.cell (p := ⟨w.heap.size, 2, none⟩) x6).trans x2
  have y4 := (hbr.cell (p := ⟨w.heap.size, 4, none⟩) x6).trans x4
  have y5 := (hbr.cell (p := ⟨w.heap.size, 5, none⟩) x6).trans x5
  have y6 := Nat.lt_of_lt_of_le x6 hbr.size
  have bkr := bk.trans (hbr.mono bk.size)
  clear x0 x1 x2 x3 x4 x5 x6 hbr bk cs
  generalize wc = w2 at *
  obtain ⟨fz, hfz⟩ : ∃ fz, fz = (f == 0) := ⟨_, rfl⟩
  rw [← hfz]
  have hF := Lib.hid hfz
  clear hfz hf
  go_upto_region 6 with fail
  simp only [List.append_eq, List.cons_append, List.nil_append]
  rcases Bool.eq_false_or_eq_true b with hb | hb
  · subst hb
    have hsh : shape 4 true n f [] l = false := by simp [shape, ← hF.out]
    have hS := Lib.hid hsh
    clear hsh hi hp
    go_wp2_with fail
    go_ret
    exact ⟨ret_int (by rw [hV'.out, if_neg h13, if_pos hS.out]), bkr⟩
  subst hb
  rcases Classical.em (n = 0) with hn0 | hn0
  rotate_left
  · have hn1 : (n != 0) = true := by simpa using hn0
    have hsh : shape 4 false n f [] l = false := by simp [shape, ← hF.out, hn0]
    have hS := Lib.hid hsh
    clear hsh hi hp
    go_wp2_with fail
    go_ret
    exact ⟨ret_int (by rw [hV'.out, if_neg h13, if_pos hS.out]), bkr⟩
  subst hn0
  cases fz
  · have hsh : shape 4 false 0 f [] l = false := by simp [shape, ← hF.out]
    have hS := Lib.hid hsh
    clear hsh hi hp
    go_wp2_with fail
    go_ret
    exact ⟨ret_int (by rw [hV'.out, if_neg h13, if_pos hS.out]), bkr⟩
  rcases Classical.em (0 < l.length) with hl0 | hl0
  · have hl1 : (0 : Int) < l.length := by omega
    have hl2 := Lib.hid (show l ≠ [] by intro h; rw [h] at hl0; exact absurd hl0 (by simp))
    have hsh : shape 4 false 0 f [] l = false := by simp [shape, ← hF.out, hl2.out]
    have hS := Lib.hid hsh
    clear hsh hi hp
    go_wp2_with fail
    go_ret
    exact ⟨ret_int (by rw [hV'.out, if_neg h13, if_pos hS.out]), bkr⟩
  have hl2 : l = [] := List.eq_nil_of_length_eq_zero (by omega)
  subst hl2
  have hsh : shape 4 false 0 f [] [] = true := by simp [shape, ← hF.out]
  have hS := Lib.hid hsh
  clear hsh
  have y5 : w2.cell? ⟨w.heap.size, 5, none⟩ = some (.slice A 0 cap) := y5
  have hV2 := Lib.hid (show checkV (.mk 4 false 0 f [] []) d = 0 by rw [hV'.out, if_neg h13, if_neg (by rw [hS.out]; simp), if_neg (by simp)] <;> simp [checkVL])
  clear hi hp hS hV'
  go_wp2_with fail
  go_loopw [8] (fun a8 wr => a8 = .int .i64 0 ∧ wr = w2) (fun _ _ => 0)
  case atStart => exact ⟨rfl, rfl⟩
  case round =>
    obtain ⟨rfl, rfl⟩ := hrel
    go_wp2_with fail
    go_ret
    exact ⟨ret_int hV2.out.symm, bkr⟩

set_option maxRecDepth 8000 in
set_option maxHeartbeats 4000000 in
theorem rck4b (b : Bool) (n : Int) (f : Nat) (c : UInt8) (s : List UInt8) (l : List Val) (A : Option Addr) (cap : Nat) (w : World) (d : Nat) (hf : U64 f) (hlb : l.length ≤ 140737488351232) (hl : l.length ≤ cap) (hP : Parts w A l) (hd : d ≤ 14) (h13 : ¬ 13 < d)
    (ih : ∀ (i : Nat) (x : Val), l[i]? = some x → ∀ (u : Value) (w : World) (d : Nat), Has w u x → d ≤ 14 → Calls Try.prog 44 #[u, .int .i64 d] w (IntEnds (checkV x d) w)) :
    Calls Try.prog 44 #[valV 4 b n f (c :: s) A l.length cap, .int .i64 d] w (IntEnds (checkV (.mk 4 b n f (c :: s) l) d) w) := by
  have hV' := Lib.hid (show checkV (.mk 4 b n f (c :: s) l) d = (if 13 < d then 3 else if shape 4 b n f (c :: s) l = false then 6 else if 500 < (c :: s).length ∨ 1000 < l.length then 3 else if checkVL l (d + 1) ≠ 0 then checkVL l (d + 1) else if (4 : Int) = 6 ∧ risesV l = false then 6 else 0) by rw [checkV])
  have cs : ∀ w : World, Calls Try.prog 56 #[.float .f64 f] w fun e w' => e = .returned (.bool (Fl.neg f)) ∧ Below w.heap.size w w' := fun w => (signbit_c f w hf).mono fun e w' ⟨h1, h2⟩ => ⟨h1, h2 ▸ Below.refl _ _⟩
  have h13' : ¬ (13 : Int) < d := by omega
  go_enter Try.func44, Try.ntmps44
  go_upto_region 1 with fail
  obtain ⟨w1, hw1⟩ : ∃ w1, w1 = w.alloc (.cells #[.int .i64 4, .bool b, .int .i64 n, .float .f64 f, .string (st (c :: s)), .slice A l.length cap] 31) := ⟨_, rfl⟩
  have bk : Below w.heap.size w w1 := hw1 ▸ below_alloc w _
  obtain ⟨x6, x0, x1, x2, x3, x4, x5⟩ : Box w1 w.heap.size 4 b n f (c :: s) A l.length cap := hw1 ▸ Box.new w 4 b n f (c :: s) A l.length cap _
  rw [← hw1]
  clear hw1
  have hi := Lib.hid ih
  have hp := Lib.hid hP
  clear ih hP
  go_upto_region 4 with fail
  go_cut [6] (fun a6 wx => a6 = .bool (f == 0) ∧ Below w1.heap.size w1 wx)
  case first =>
    clear hV' hi hp
    refine zero_cases _ hf (fun e1 e2 e3 e4 => ?_) (fun e1 e2 e3 => ?_) (fun e1 e2 => ?_)
    all_goals
      have hE := Lib.hid e1
      clear e1
      go_wp2_with ((with_reducible refine (cs _).mono ?_); rintro e w2 ⟨rfl, hb2⟩)
      ((with_reducible show Met _ _ _); refine Met.intro ?_; go_step; (repeat' apply Exists.intro); refine ⟨?_, rfl⟩)
      exact ⟨by rw [hE.out], by first | exact hb2 | exact Below.refl _ _⟩
  case rest =>
  obtain ⟨rfl, hbr⟩ := hcut
  have y0 := (hbr.cell (p := ⟨w.heap.size, 0, none⟩) x6).trans x0
  have y1 := (hbr.cell (p := ⟨w.heap.size, 1, none⟩) x6).trans x1
  have y2 := (hbr.cell (p := ⟨w.heap.size, 2, none⟩) x6).trans x2
  have y4 := (hbr.cell (p := ⟨w.heap.size, 4, none⟩) x6).trans x4
  have y5 := (hbr.cell (p := ⟨w.heap.size, 5, none⟩) x6).trans x5
  have y6 := Nat.lt_of_lt_of_le x6 hbr.size
  have bkr := bk.trans (hbr.mono bk.size)
  clear x0 x1 x2 x3 x4 x5 x6 hbr bk cs
  generalize wc = w2 at *
  obtain ⟨fz, hfz⟩ : ∃ fz, fz = (f == 0) := ⟨_, rfl⟩
  rw [← hfz]
  have hF := Lib.hid hfz
  clear hfz hf
  go_upto_region 6 with fail
  simp only [List.append_eq, List.cons_append, List.nil_append]
  rcases Bool.eq_false_or_eq_true b with hb | hb
  · subst hb
    have hsh : shape 4 true n f (c :: s) l = false := by simp [shape, ← hF.out]
    have hS := Lib.hid hsh
    clear hsh hi hp
    go_wp2_with fail
    go_ret
    exact ⟨ret_int (by rw [hV'.out, if_neg h13, if_pos hS.out]), bkr⟩
  subst hb
  rcases Classical.em (n = 0) with hn0 | hn0
  rotate_left
  · have hn1 : (n != 0) = true := by simpa using hn0
    have hsh : shape 4 false n f (c :: s) l = false := by simp [shape, ← hF.out, hn0]
    have hS := Lib.hid hsh
    clear hsh hi hp
    go_wp2_with fail
    go_ret
    exact ⟨ret_int (by rw [hV'.out, if_neg h13, if_pos hS.out]), bkr⟩
  subst hn0
  cases fz
  · have hsh : shape 4 false 0 f (c :: s) l = false := by simp [shape, ← hF.out]
    have hS := Lib.hid hsh
    clear hsh hi hp
    go_wp2_with fail
    go_ret
    exact ⟨ret_int (by rw [hV'.out, if_neg h13, if_pos hS.out]), bkr⟩
  rcases Classical.em (0 < l.length) with hl0 | hl0
  · have hl1 : (0 : Int) < l.length := by omega
    have hl2 := Lib.hid (show l ≠ [] by intro h; rw [h] at hl0; exact absurd hl0 (by simp))
    have hsh : shape 4 false 0 f (c :: s) l = false := by simp [shape, ← hF.out, hl2.out]
    have hS := Lib.hid hsh
    clear hsh hi hp
    go_wp2_with fail
    go_ret
    exact ⟨ret_int (by rw [hV'.out, if_neg h13, if_pos hS.out]), bkr⟩
  have hl2 : l = [] := List.eq_nil_of_length_eq_zero (by omega)
  subst hl2
  have hsh : shape 4 false 0 f (c :: s) [] = true := by simp [shape, ← hF.out]
  have hS := Lib.hid hsh
  clear hsh
  by_cases h5 : 500 < (c :: s).length
  · have h5' : (500 : Int) < (c :: s).length := by omega
    have h5q : (500 : Int) < (s.length : Int) + 1 := by simp at h5; omega
    clear hi hp
    go_wp2_with fail
    go_ret
    exact ⟨ret_int (by rw [hV'.out, if_neg h13, if_neg (by rw [hS.out]; simp), if_pos (.inl h5)]), bkr⟩
  have h5' : ¬ (500 : Int) < (c :: s).length := by omega
  have h5q : ¬ (500 : Int) < (s.length : Int) + 1 := by simp at h5; omega
  have y5 : w2.cell? ⟨w.heap.size, 5, none⟩ = some (.slice A 0 cap) := y5
  have hV2 := Lib.hid (show checkV (.mk 4 false 0 f (c :: s) []) d = 0 by rw [hV'.out, if_neg h13, if_neg (by rw [hS.out]; simp), if_neg (by simp at h5 ⊢; omega)] <;> simp [checkVL])
  clear hi hp hS hV'
  go_wp2_with fail
  go_loopw [8] (fun a8 wr => a8 = .int .i64 0 ∧ wr = w2) (fun _ _ => 0)
  case atStart => exact ⟨rfl, rfl⟩
  case round =>
    obtain ⟨rfl, rfl⟩ := hrel
    go_wp2_with fail
    go_ret
    exact ⟨ret_int hV2.out.symm, bkr⟩

set_option maxRecDepth 8000 in
set_option maxHeartbeats 4000000 in
theorem rck5a (b : Bool) (n : Int) (f : Nat) (s : List UInt8) (l : List Val) (A : Option Addr) (cap : Nat) (w : World) (d : Nat) (hf : U64 f) (hlb : l.length ≤ 140737488351232) (hl : l.length ≤ cap) (hP : Parts w A l) (hd : d ≤ 14) (h13 : ¬ 13 < d) (hl0 : 0 < l.length)
    (ih : ∀ (i : Nat) (x : Val), l[i]? = some x → ∀ (u : Value) (w : World) (d : Nat), Has w u x → d ≤ 14 → Calls Try.prog 44 #[u, .int .i64 d] w (IntEnds (checkV x d) w)) :
    Calls Try.prog 44 #[valV 5 b n f s A l.length cap, .int .i64 d] w (IntEnds (checkV (.mk 5 b n f s l) d) w) := by
  have hV' := Lib.hid (show checkV (.mk 5 b n f s l) d = (if 13 < d then 3 else if shape 5 b n f s l = false then 6 else if 500 < s.length ∨ 1000 < l.length then 3 else if checkVL l (d + 1) ≠ 0 then checkVL l (d + 1) else if (5 : Int) = 6 ∧ risesV l = false then 6 else 0) by rw [checkV])
  have cs : ∀ w : World, Calls Try.prog 56 #[.float .f64 f] w fun e w' => e = .returned (.bool (Fl.neg f)) ∧ Below w.heap.size w w' := fun w => (signbit_c f w hf).mono fun e w' ⟨h1, h2⟩ => ⟨h1, h2 ▸ Below.refl _ _⟩
  have hl1 : (0 : Int) < l.length := by omega
  have h13' : ¬ (13 : Int) < d := by omega
  go_enter Try.func44, Try.ntmps44
  go_upto_region 1 with fail
  obtain ⟨w1, hw1⟩ : ∃ w1, w1 = w.alloc (.cells #[.int .i64 5, .bool b, .int .i64 n, .float .f64 f, .string (st s), .slice A l.length cap] 31) := ⟨_, rfl⟩
  have bk : Below w.heap.size w w1 := hw1 ▸ below_alloc w _
  obtain ⟨x6, x0, x1, x2, x3, x4, x5⟩ : Box w1 w.heap.size 5 b n f s A l.length cap := hw1 ▸ Box.new w 5 b n f s A l.length cap _
  rw [← hw1]
  clear hw1
  have hi := Lib.hid ih
  have hp := Lib.hid hP
  clear ih hP
  go_upto_region 4 with fail
  go_cut [6] (fun a6 wx => a6 = .bool (f == 0) ∧ Below w1.heap.size w1 wx)
  case first =>
    clear hV' hi hp
    refine zero_cases _ hf (fun e1 e2 e3 e4 => ?_) (fun e1 e2 e3 => ?_) (fun e1 e2 => ?_)
    all_goals
      have hE := Lib.hid e1
      clear e1
      go_wp2_with ((with_reducible refine (cs _).mono ?_); rintro e w2 ⟨rfl, hb2⟩)
      ((with_reducible show Met _ _ _); refine Met.intro ?_; go_step; (repeat' apply Exists.intro); refine ⟨?_, rfl⟩)
      exact ⟨by rw [hE.out], by first | exact hb2 | exact Below.refl _ _⟩
  case rest =>
  obtain ⟨rfl, hbr⟩ := hcut
  have y0 := (hbr.cell (p := ⟨w.heap.size, 0, none⟩) x6).trans x0
  have y1 := (hbr.cell (p := ⟨w.heap.size, 1, none⟩) x6).trans x1
  have y2 := (hbr.cell (p := ⟨w.heap.size, 2, none⟩) x6).trans x2
  have y4 := (hbr.cell (p := ⟨w.heap.size, 4, none⟩) x6).trans x4
  have y5 := (hbr.cell (p := ⟨w.heap.size, 5, none⟩) x6).trans x5
  have y6 := Nat.lt_of_lt_of_le x6 hbr.size
  have bkr := bk.trans (hbr.mono bk.size)
  clear x0 x1 x2 x3 x4 x5 x6 hbr bk cs
  generalize wc = w2 at *
  obtain ⟨fz, hfz⟩ : ∃ fz, fz = (f == 0) := ⟨_, rfl⟩
  rw [← hfz]
  have hF := Lib.hid hfz
  clear hfz hf
  go_upto_region 6 with fail
  simp only [List.append_eq, List.cons_append, List.nil_append]
  rcases Bool.eq_false_or_eq_true b with hb | hb
  · subst hb
    have hsh : shape 5 true n f s l = false := by simp [shape, ← hF.out]
    have hS := Lib.hid hsh
    clear hsh hi hp
    go_wp2_with fail
    go_ret
    exact ⟨ret_int (by rw [hV'.out, if_neg h13, if_pos hS.out]), bkr⟩
  subst hb
  rcases Classical.em (n = 0) with hn0 | hn0
  rotate_left
  · have hn1 : (n != 0) = true := by simpa using hn0
    have hsh : shape 5 false n f s l = false := by simp [shape, ← hF.out, hn0]
    have hS := Lib.hid hsh
    clear hsh hi hp
    go_wp2_with fail
    go_ret
    exact ⟨ret_int (by rw [hV'.out, if_neg h13, if_pos hS.out]), bkr⟩
  subst hn0
  cases fz
  · have hsh : shape 5 false 0 f s l = false := by simp [shape, ← hF.out]
    have hS := Lib.hid hsh
    clear hsh hi hp
    go_wp2_with fail
    go_ret
    exact ⟨ret_int (by rw [hV'.out, if_neg h13, if_pos hS.out]), bkr⟩
  cases s with
  | cons c s =>
    have hsh : shape 5 false 0 f (c :: s) l = false := by simp [shape, ← hF.out]
    have hS := Lib.hid hsh
    clear hsh hi hp
    go_wp2_with fail
    go_ret
    exact ⟨ret_int (by rw [hV'.out, if_neg h13, if_pos hS.out]), bkr⟩
  | nil =>
  have hsh : shape 5 false 0 f [] l = true := by simp [shape, ← hF.out]
  have hS := Lib.hid hsh
  clear hsh
  by_cases h1 : 1000 < l.length
  · have h1' : (1000 : Int) < l.length := by omega
    clear hi hp
    go_wp2_with fail
    go_ret
    exact ⟨ret_int (by rw [hV'.out, if_neg h13, if_neg (by rw [hS.out]; simp), if_pos (.inr h1)]), bkr⟩
  have h1' : ¬ (1000 : Int) < l.length := by omega
  obtain ⟨d', hd'⟩ : ∃ d', d' = d + 1 := ⟨_, rfl⟩
  have hV2 := Lib.hid (show checkV (.mk 5 false 0 f [] l) d = if checkVL l d' ≠ 0 then checkVL l d' else if (5 : Int) = 6 ∧ risesV l = false then 6 else 0 by rw [hV'.out, if_neg h13, if_neg (by rw [hS.out]; simp), if_neg (by simp; omega), hd'])
  have wd : IntKind.i64.wrap ((d : Int) + 1) = (d' : Int) := by rw [wrap_i64]; omega
  have hd14 : d' ≤ 14 := by omega
  have hH := Lib.hid hd'
  clear hd' hV' hd
  go_wp2_with fail
  go_loopw [8] (fun a8 wr => ∃ i : Nat, a8 = .int .i64 i ∧ i ≤ l.length ∧ Hid (checkVL l d' = checkVL (l.drop i) d') ∧ Below w2.heap.size w2 wr) (fun a _ => l.length - (intOf a).toNat)
  case atStart => exact ⟨0, rfl, Nat.zero_le _, rfl, Below.refl _ _⟩
  case round =>
    obtain ⟨i, rfl, hi1, hcm, hbr⟩ := hrel
    have bkq := bkr.trans (hbr.mono bkr.size)
    have z0 := (hbr.cell (p := ⟨w.heap.size, 0, none⟩) y6).trans y0
    have z5 := (hbr.cell (p := ⟨w.heap.size, 5, none⟩) y6).trans y5
    have z6 := Nat.lt_of_lt_of_le y6 hbr.size
    clear y0 y1 y2 y4
    by_cases hin : i < l.length
    · have hil' : (i : Int) < l.length := by omega
      obtain ⟨ad, k1, b1, n1, f1, s1, C1, len1, c1, rfl, hx, hat⟩ := hp.out i l[i] (by simp)
      obtain ⟨q6, q0, q1, q2, q3, q4, q5⟩ := hat.keep bkq
      have wi : IntKind.i64.wrap ((i : Int) + 1) = (i : Int) + 1 := by rw [wrap_i64]; omega
      have hst := Lib.hid (checkVL_step (l := l) (i := i) (x := l[i]) (by simp) d')
      have cr : Calls Try.prog 44 #[valV k1 b1 n1 f1 _ C1 len1 c1, .int .i64 (d' : Int)] wr (IntEnds (checkV l[i] d') wr) := hi.out i l[i] (by simp) _ wr d' (hx.keep bkq) hd14
      generalize l[i] = x at *
      clear hx hat hi hp
      have hcx : (checkV x d' != 0) = true ∨ (checkV x d' != 0) = false := by cases (checkV x d' != 0) <;> simp
      generalize hcv : checkV x d' = cv at *
      have hcv := Lib.hid hcv
      rcases hcx with hcx | hcx
      · have hne : cv ≠ 0 := by simpa using hcx
        have hN := Lib.hid hne
        clear hne
        go_wp2_with ((with_reducible refine cr.mono ?_); rintro e w3 ⟨rfl, hb3⟩)
        go_ret
        exact ⟨ret_int (by have h1 := hcm.out.trans hst.out; rw [if_pos hN.out] at h1; rw [hV2.out, h1, if_pos hN.out]), bkq.trans (hb3.mono bkq.size)⟩
      · have hne : cv = 0 := by simpa using hcx
        have hN := Lib.hid hne
        clear hne
        go_wp2_with ((with_reducible refine cr.mono ?_); rintro e w3 ⟨rfl, hb3⟩)
        refine ⟨⟨i + 1, rfl, hin, ?_, hbr.trans (hb3.mono hbr.size)⟩, by simp [intOf]; omega⟩
        show _ = _
        have h1 := hcm.out.trans hst.out
        rw [if_neg (by rw [hN.out]; simp)] at h1
        exact h1
    · have hil' : ¬ (i : Int) < l.length := by omega
      have hz : checkVL l d' = 0 := by rw [hcm.out, List.drop_eq_nil_of_le (by omega)]; simp [checkVL]
      have hV3 := Lib.hid (show checkV (.mk 5 false 0 f [] l) d = if (5 : Int) = 6 ∧ risesV l = false then 6 else 0 by rw [hV2.out, if_neg (by rw [hz]; simp)] <;> simp)
      have cr := rrises_c l A cap wr (hp.out.keep bkq) hlb
      clear hz hp hi hcm
      clear cr
      go_wp2_with fail
      go_ret
      exact ⟨ret_int (by rw [hV3.out, if_neg (by simp)]), bkq⟩

set_option maxRecDepth 8000 in
set_option maxHeartbeats 4000000 in
theorem rck5b (b : Bool) (n : Int) (f : Nat) (s : List UInt8) (l : List Val) (A : Option Addr) (cap : Nat) (w : World) (d : Nat) (hf : U64 f) (hlb : l.length ≤ 140737488351232) (hl : l.length ≤ cap) (hP : Parts w A l) (hd : d ≤ 14) (h13 : ¬ 13 < d) (hl0 : ¬ 0 < l.length)
    (ih : ∀ (i : Nat) (x : Val), l[i]? = some x → ∀ (u : Value) (w : World) (d : Nat), Has w u x → d ≤ 14 → Calls Try.prog 44 #[u, .int .i64 d] w (IntEnds (checkV x d) w)) :
    Calls Try.prog 44 #[valV 5 b n f s A l.length cap, .int .i64 d] w (IntEnds (checkV (.mk 5 b n f s l) d) w) := by
  have hV' := Lib.hid (show checkV (.mk 5 b n f s l) d = (if 13 < d then 3 else if shape 5 b n f s l = false then 6 else if 500 < s.length ∨ 1000 < l.length then 3 else if checkVL l (d + 1) ≠ 0 then checkVL l (d + 1) else if (5 : Int) = 6 ∧ risesV l = false then 6 else 0) by rw [checkV])
  have cs : ∀ w : World, Calls Try.prog 56 #[.float .f64 f] w fun e w' => e = .returned (.bool (Fl.neg f)) ∧ Below w.heap.size w w' := fun w => (signbit_c f w hf).mono fun e w' ⟨h1, h2⟩ => ⟨h1, h2 ▸ Below.refl _ _⟩
  have hl1 : ¬ (0 : Int) < l.length := by omega
  have h13' : ¬ (13 : Int) < d := by omega
  go_enter Try.func44, Try.ntmps44
  go_upto_region 1 with fail
  obtain ⟨w1, hw1⟩ : ∃ w1, w1 = w.alloc (.cells #[.int .i64 5, .bool b, .int .i64 n, .float .f64 f, .string (st s), .slice A l.length cap] 31) := ⟨_, rfl⟩
  have bk : Below w.heap.size w w1 := hw1 ▸ below_alloc w _
  obtain ⟨x6, x0, x1, x2, x3, x4, x5⟩ : Box w1 w.heap.size 5 b n f s A l.length cap := hw1 ▸ Box.new w 5 b n f s A l.length cap _
  rw [← hw1]
  clear hw1
  have hi := Lib.hid ih
  have hp := Lib.hid hP
  clear ih hP
  go_upto_region 4 with fail
  go_cut [6] (fun a6 wx => a6 = .bool (f == 0) ∧ Below w1.heap.size w1 wx)
  case first =>
    clear hV' hi hp
    refine zero_cases _ hf (fun e1 e2 e3 e4 => ?_) (fun e1 e2 e3 => ?_) (fun e1 e2 => ?_)
    all_goals
      have hE := Lib.hid e1
      clear e1
      go_wp2_with ((with_reducible refine (cs _).mono ?_); rintro e w2 ⟨rfl, hb2⟩)
      ((with_reducible show Met _ _ _); refine Met.intro ?_; go_step; (repeat' apply Exists.intro); refine ⟨?_, rfl⟩)
      exact ⟨by rw [hE.out], by first | exact hb2 | exact Below.refl _ _⟩
  case rest =>
  obtain ⟨rfl, hbr⟩ := hcut
  have y0 := (hbr.cell (p := ⟨w.heap.size, 0, none⟩) x6).trans x0
  have y1 := (hbr.cell (p := ⟨w.heap.size, 1, none⟩) x6).trans x1
  have y2 := (hbr.cell (p := ⟨w.heap.size, 2, none⟩) x6).trans x2
  have y4 := (hbr.cell (p := ⟨w.heap.size, 4, none⟩) x6).trans x4
  have y5 := (hbr.cell (p := ⟨w.heap.size, 5, none⟩) x6).trans x5
  have y6 := Nat.lt_of_lt_of_le x6 hbr.size
  have bkr := bk.trans (hbr.mono bk.size)
  clear x0 x1 x2 x3 x4 x5 x6 hbr bk cs
  generalize wc = w2 at *
  obtain ⟨fz, hfz⟩ : ∃ fz, fz = (f == 0) := ⟨_, rfl⟩
  rw [← hfz]
  have hF := Lib.hid hfz
  clear hfz hf
  go_upto_region 6 with fail
  simp only [List.append_eq, List.cons_append, List.nil_append]
  rcases Bool.eq_false_or_eq_true b with hb | hb
  · subst hb
    have hsh : shape 5 true n f s l = false := by simp [shape, ← hF.out]
    have hS := Lib.hid hsh
    clear hsh hi hp
    go_wp2_with fail
    go_ret
    exact ⟨ret_int (by rw [hV'.out, if_neg h13, if_pos hS.out]), bkr⟩
  subst hb
  rcases Classical.em (n = 0) with hn0 | hn0
  rotate_left
  · have hn1 : (n != 0) = true := by simpa using hn0
    have hsh : shape 5 false n f s l = false := by simp [shape, ← hF.out, hn0]
    have hS := Lib.hid hsh
    clear hsh hi hp
    go_wp2_with fail
    go_ret
    exact ⟨ret_int (by rw [hV'.out, if_neg h13, if_pos hS.out]), bkr⟩
  subst hn0
  cases fz
  · have hsh : shape 5 false 0 f s l = false := by simp [shape, ← hF.out]
    have hS := Lib.hid hsh
    clear hsh hi hp
    go_wp2_with fail
    go_ret
    exact ⟨ret_int (by rw [hV'.out, if_neg h13, if_pos hS.out]), bkr⟩
  cases s with
  | cons c s =>
    have hsh : shape 5 false 0 f (c :: s) l = false := by simp [shape, ← hF.out]
    have hS := Lib.hid hsh
    clear hsh hi hp
    go_wp2_with fail
    go_ret
    exact ⟨ret_int (by rw [hV'.out, if_neg h13, if_pos hS.out]), bkr⟩
  | nil =>
  have hl2 : l = [] := List.eq_nil_of_length_eq_zero (by omega)
  subst hl2
  clear hl1 hl0
  have hsh : shape 5 false 0 f [] [] = true := by simp [shape, ← hF.out]
  have hS := Lib.hid hsh
  clear hsh
  have y5 : w2.cell? ⟨w.heap.size, 5, none⟩ = some (.slice A 0 cap) := y5
  have hV2 := Lib.hid (show checkV (.mk 5 false 0 f [] []) d = 0 by rw [hV'.out, if_neg h13, if_neg (by rw [hS.out]; simp), if_neg (by simp)] <;> simp [checkVL])
  clear hi hp hS hV'
  go_wp2_with fail
  go_loopw [8] (fun a8 wr => a8 = .int .i64 0 ∧ wr = w2) (fun _ _ => 0)
  case atStart => exact ⟨rfl, rfl⟩
  case round =>
    obtain ⟨rfl, rfl⟩ := hrel
    go_wp2_with fail
    go_ret
    exact ⟨ret_int hV2.out.symm, bkr⟩

set_option maxRecDepth 8000 in
set_option maxHeartbeats 4000000 in
theorem rck6a (b : Bool) (n : Int) (f : Nat) (s : List UInt8) (l : List Val) (A : Option Addr) (cap : Nat) (w : World) (d : Nat) (hf : U64 f) (hlb : l.length ≤ 140737488351232) (hl : l.length ≤ cap) (hP : Parts w A l) (hd : d ≤ 14) (h13 : ¬ 13 < d) (hl0 : 0 < l.length)
    (ih : ∀ (i : Nat) (x : Val), l[i]? = some x → ∀ (u : Value) (w : World) (d : Nat), Has w u x → d ≤ 14 → Calls Try.prog 44 #[u, .int .i64 d] w (IntEnds (checkV x d) w)) :
    Calls Try.prog 44 #[valV 6 b n f s A l.length cap, .int .i64 d] w (IntEnds (checkV (.mk 6 b n f s l) d) w) := by
  have hV' := Lib.hid (show checkV (.mk 6 b n f s l) d = (if 13 < d then 3 else if shape 6 b n f s l = false then 6 else if 500 < s.length ∨ 1000 < l.length then 3 else if checkVL l (d + 1) ≠ 0 then checkVL l (d + 1) else if (6 : Int) = 6 ∧ risesV l = false then 6 else 0) by rw [checkV])
  have cs : ∀ w : World, Calls Try.prog 56 #[.float .f64 f] w fun e w' => e = .returned (.bool (Fl.neg f)) ∧ Below w.heap.size w w' := fun w => (signbit_c f w hf).mono fun e w' ⟨h1, h2⟩ => ⟨h1, h2 ▸ Below.refl _ _⟩
  have hl1 : (0 : Int) < l.length := by omega
  have h13' : ¬ (13 : Int) < d := by omega
  go_enter Try.func44, Try.ntmps44
  go_upto_region 1 with fail
  obtain ⟨w1, hw1⟩ : ∃ w1, w1 = w.alloc (.cells #[.int .i64 6, .bool b, .int .i64 n, .float .f64 f, .string (st s), .slice A l.length cap] 31) := ⟨_, rfl⟩
  have bk : Below w.heap.size w w1 := hw1 ▸ below_alloc w _
  obtain ⟨x6, x0, x1, x2, x3, x4, x5⟩ : Box w1 w.heap.size 6 b n f s A l.length cap := hw1 ▸ Box.new w 6 b n f s A l.length cap _
  rw [← hw1]
  clear hw1
  have hi := Lib.hid ih
  have hp := Lib.hid hP
  clear ih hP
  go_upto_region 4 with fail
  go_cut [6] (fun a6 wx => a6 = .bool (f == 0) ∧ Below w1.heap.size w1 wx)
  case first =>
    clear hV' hi hp
    refine zero_cases _ hf (fun e1 e2 e3 e4 => ?_) (fun e1 e2 e3 => ?_) (fun e1 e2 => ?_)
    all_goals
      have hE := Lib.hid e1
      clear e1
      go_wp2_with ((with_reducible refine (cs _).mono ?_); rintro e w2 ⟨rfl, hb2⟩)
      ((with_reducible show Met _ _ _); refine Met.intro ?_; go_step; (repeat' apply Exists.intro); refine ⟨?_, rfl⟩)
      exact ⟨by rw [hE.out], by first | exact hb2 | exact Below.refl _ _⟩
  case rest =>
  obtain ⟨rfl, hbr⟩ := hcut
  have y0 := (hbr.cell (p := ⟨w.heap.size, 0, none⟩) x6).trans x0
  have y1 := (hbr.cell (p := ⟨w.heap.size, 1, none⟩) x6).trans x1
  have y2 := (hbr.cell (p := ⟨w.heap.size, 2, none⟩) x6).trans x2
  have y4 := (hbr.cell (p := ⟨w.heap.size, 4, none⟩) x6).trans x4
  have y5 := (hbr.cell (p := ⟨w.heap.size, 5, none⟩) x6).trans x5
  have y6 := Nat.lt_of_lt_of_le x6 hbr.size
  have bkr := bk.trans (hbr.mono bk.size)
  clear x0 x1 x2 x3 x4 x5 x6 hbr bk cs
  generalize wc = w2 at *
  obtain ⟨fz, hfz⟩ : ∃ fz, fz = (f == 0) := ⟨_, rfl⟩
  rw [← hfz]
  have hF := Lib.hid hfz
  clear hfz hf
  go_upto_region 6 with fail
  simp only [List.append_eq, List.cons_append, List.nil_append]
  rcases Bool.eq_false_or_eq_true b with hb | hb
  · subst hb
    have hsh : shape 6 true n f s l = false := by simp [shape, ← hF.out]
    have hS := Lib.hid hsh
    clear hsh hi hp
    go_wp2_with fail
    go_ret
    exact ⟨ret_int (by rw [hV'.out, if_neg h13, if_pos hS.out]), bkr⟩
  subst hb
  rcases Classical.em (n = 0) with hn0 | hn0
  rotate_left
  · have hn1 : (n != 0) = true := by simpa using hn0
    have hsh : shape 6 false n f s l = false := by simp [shape, ← hF.out, hn0]
    have hS := Lib.hid hsh
    clear hsh hi hp
    go_wp2_with fail
    go_ret
    exact ⟨ret_int (by rw [hV'.out, if_neg h13, if_pos hS.out]), bkr⟩
  subst hn0
  cases fz
  · have hsh : shape 6 false 0 f s l = false := by simp [shape, ← hF.out]
    have hS := Lib.hid hsh
    clear hsh hi hp
    go_wp2_with fail
    go_ret
    exact ⟨ret_int (by rw [hV'.out, if_neg h13, if_pos hS.out]), bkr⟩
  cases s with
  | cons c s =>
    have hsh : shape 6 false 0 f (c :: s) l = false := by simp [shape, ← hF.out]
    have hS := Lib.hid hsh
    clear hsh hi hp
    go_wp2_with fail
    go_ret
    exact ⟨ret_int (by rw [hV'.out, if_neg h13, if_pos hS.out]), bkr⟩
  | nil =>
  have hsh : shape 6 false 0 f [] l = true := by simp [shape, ← hF.out]
  have hS := Lib.hid hsh
  clear hsh
  by_cases h1 : 1000 < l.length
  · have h1' : (1000 : Int) < l.length := by omega
    clear hi hp
    go_wp2_with fail
    go_ret
    exact ⟨ret_int (by rw [hV'.out, if_neg h13, if_neg (by rw [hS.out]; simp), if_pos (.inr h1)]), bkr⟩
  have h1' : ¬ (1000 : Int) < l.length := by omega
  obtain ⟨d', hd'⟩ : ∃ d', d' = d + 1 := ⟨_, rfl⟩
  have hV2 := Lib.hid (show checkV (.mk 6 false 0 f [] l) d = if checkVL l d' ≠ 0 then checkVL l d' else if (6 : Int) = 6 ∧ risesV l = false then 6 else 0 by rw [hV'.out, if_neg h13, if_neg (by rw [hS.out]; simp), if_neg (by simp; omega), hd'])
  have wd : IntKind.i64.wrap ((d : Int) + 1) = (d' : Int) := by rw [wrap_i64]; omega
  have hd14 : d' ≤ 14 := by omega
  have hH := Lib.hid hd'
  clear hd' hV' hd
  go_wp2_with fail
  go_loopw [8] (fun a8 wr => ∃ i : Nat, a8 = .int .i64 i ∧ i ≤ l.length ∧ Hid (checkVL l d' = checkVL (l.drop i) d') ∧ Below w2.heap.size w2 wr) (fun a _ => l.length - (intOf a).toNat)
  case atStart => exact ⟨0, rfl, Nat.zero_le _, rfl, Below.refl _ _⟩
  case round =>
    obtain ⟨i, rfl, hi1, hcm, hbr⟩ := hrel
    have bkq := bkr.trans (hbr.mono bkr.size)
    have z0 := (hbr.cell (p := ⟨w.heap.size, 0, none⟩) y6).trans y0
    have z5 := (hbr.cell (p := ⟨w.heap.size, 5, none⟩) y6).trans y5
    have z6 := Nat.lt_of_lt_of_le y6 hbr.size
    clear y0 y1 y2 y4
    by_cases hin : i < l.length
    · have hil' : (i : Int) < l.length := by omega
      obtain ⟨ad, k1, b1, n1, f1, s1, C1, len1, c1, rfl, hx, hat⟩ := hp.out i l[i] (by simp)
      obtain ⟨q6, q0, q1, q2, q3, q4, q5⟩ := hat.keep bkq
      have wi : IntKind.i64.wrap ((i : Int) + 1) = (i : Int) + 1 := by rw [wrap_i64]; omega
      have hst := Lib.hid (checkVL_step (l := l) (i := i) (x := l[i]) (by simp) d')
      have cr : Calls Try.prog 44 #[valV k1 b1 n1 f1 _ C1 len1 c1, .int .i64 (d' : Int)] wr (IntEnds (checkV l[i] d') wr) := hi.out i l[i] (by simp) _ wr d' (hx.keep bkq) hd14
      generalize l[i] = x at *
      clear hx hat hi hp
      have hcx : (checkV x d' != 0) = true ∨ (checkV x d' != 0) = false := by cases (checkV x d' != 0) <;> simp
      generalize hcv : checkV x d' = cv at *
      have hcv := Lib.hid hcv
      rcases hcx with hcx | hcx
      · have hne : cv ≠ 0 := by simpa using hcx
        have hN := Lib.hid hne
        clear hne
        go_wp2_with ((with_reducible refine cr.mono ?_); rintro e w3 ⟨rfl, hb3⟩)
        go_ret
        exact ⟨ret_int (by have h1 := hcm.out.trans hst.out; rw [if_pos hN.out] at h1; rw [hV2.out, h1, if_pos hN.out]), bkq.trans (hb3.mono bkq.size)⟩
      · have hne : cv = 0 := by simpa using hcx
        have hN := Lib.hid hne
        clear hne
        go_wp2_with ((with_reducible refine cr.mono ?_); rintro e w3 ⟨rfl, hb3⟩)
        refine ⟨⟨i + 1, rfl, hin, ?_, hbr.trans (hb3.mono hbr.size)⟩, by simp [intOf]; omega⟩
        show _ = _
        have h1 := hcm.out.trans hst.out
        rw [if_neg (by rw [hN.out]; simp)] at h1
        exact h1
    · have hil' : ¬ (i : Int) < l.length := by omega
      have hz : checkVL l d' = 0 := by rw [hcm.out, List.drop_eq_nil_of_le (by omega)]; simp [checkVL]
      have hV3 := Lib.hid (show checkV (.mk 6 false 0 f [] l) d = if (6 : Int) = 6 ∧ risesV l = false then 6 else 0 by rw [hV2.out, if_neg (by rw [hz]; simp)] <;> simp)
      have cr := rrises_c l A cap wr (hp.out.keep bkq) hlb
      clear hz hp hi hcm
      cases hri : risesV l
      · rw [hri] at cr
        go_wp2_with ((with_reducible refine cr.mono ?_); rintro e w3 ⟨rfl, hb3⟩)
        go_ret
        exact ⟨ret_int (by rw [hV3.out, if_pos (by simp [hri])]), bkq.trans (hb3.mono bkq.size)⟩
      · rw [hri] at cr
        go_wp2_with ((with_reducible refine cr.mono ?_); rintro e w3 ⟨rfl, hb3⟩)
        go_ret
        exact ⟨ret_int (by rw [hV3.out, if_neg (by rw [hri]; simp)]), bkq.trans (hb3.mono bkq.size)⟩

set_option maxRecDepth 8000 in
set_option maxHeartbeats 4000000 in
theorem rck6b (b : Bool) (n : Int) (f : Nat) (s : List UInt8) (l : List Val) (A : Option Addr) (cap : Nat) (w : World) (d : Nat) (hf : U64 f) (hlb : l.length ≤ 140737488351232) (hl : l.length ≤ cap) (hP : Parts w A l) (hd : d ≤ 14) (h13 : ¬ 13 < d) (hl0 : ¬ 0 < l.length)
    (ih : ∀ (i : Nat) (x : Val), l[i]? = some x → ∀ (u : Value) (w : World) (d : Nat), Has w u x → d ≤ 14 → Calls Try.prog 44 #[u, .int .i64 d] w (IntEnds (checkV x d) w)) :
    Calls Try.prog 44 #[valV 6 b n f s A l.length cap, .int .i64 d] w (IntEnds (checkV (.mk 6 b n f s l) d) w) := by
  have hV' := Lib.hid (show checkV (.mk 6 b n f s l) d = (if 13 < d then 3 else if shape 6 b n f s l = false then 6 else if 500 < s.length ∨ 1000 < l.length then 3 else if checkVL l (d + 1) ≠ 0 then checkVL l (d + 1) else if (6 : Int) = 6 ∧ risesV l = false then 6 else 0) by rw [checkV])
  have cs : ∀ w : World, Calls Try.prog 56 #[.float .f64 f] w fun e w' => e = .returned (.bool (Fl.neg f)) ∧ Below w.heap.size w w' := fun w => (signbit_c f w hf).mono fun e w' ⟨h1, h2⟩ => ⟨h1, h2 ▸ Below.refl _ _⟩
  have hl1 : ¬ (0 : Int) < l.length := by omega
  have h13' : ¬ (13 : Int) < d := by omega
  go_enter Try.func44, Try.ntmps44
  go_upto_region 1 with fail
  obtain ⟨w1, hw1⟩ : ∃ w1, w1 = w.alloc (.cells #[.int .i64 6, .bool b, .int .i64 n, .float .f64 f, .string (st s), .slice A l.length cap] 31) := ⟨_, rfl⟩
  have bk : Below w.heap.size w w1 := hw1 ▸ below_alloc w _
  obtain ⟨x6, x0, x1, x2, x3, x4, x5⟩ : Box w1 w.heap.size 6 b n f s A l.length cap := hw1 ▸ Box.new w 6 b n f s A l.length cap _
  rw [← hw1]
  clear hw1
  have hi := Lib.hid ih
  have hp := Lib.hid hP
  clear ih hP
  go_upto_region 4 with fail
  go_cut [6] (fun a6 wx => a6 = .bool (f == 0) ∧ Below w1.heap.size w1 wx)
  case first =>
    clear hV' hi hp
    refine zero_cases _ hf (fun e1 e2 e3 e4 => ?_) (fun e1 e2 e3 => ?_) (fun e1 e2 => ?_)
    all_goals
      have hE := Lib.hid e1
      clear e1
      go_wp2_with ((with_reducible refine (cs _).mono ?_); rintro e w2 ⟨rfl, hb2⟩)
      ((with_reducible show Met _ _ _); refine Met.intro ?_; go_step; (repeat' apply Exists.intro); refine ⟨?_, rfl⟩)
      exact ⟨by rw [hE.out], by first | exact hb2 | exact Below.refl _ _⟩
  case rest =>
  obtain ⟨rfl, hbr⟩ := hcut
  have y0 := (hbr.cell (p := ⟨w.heap.size, 0, none⟩) x6).trans x0
  have y1 := (hbr.cell (p := ⟨w.heap.size, 1, none⟩) x6).trans x1
  have y2 := (hbr.cell (p := ⟨w.heap.size, 2, none⟩) x6).trans x2
  have y4 := (hbr.cell (p := ⟨w.heap.size, 4, none⟩) x6).trans x4
  have y5 := (hbr.cell (p := ⟨w.heap.size, 5, none⟩) x6).trans x5
  have y6 := Nat.lt_of_lt_of_le x6 hbr.size
  have bkr := bk.trans (hbr.mono bk.size)
  clear x0 x1 x2 x3 x4 x5 x6 hbr bk cs
  generalize wc = w2 at *
  obtain ⟨fz, hfz⟩ : ∃ fz, fz = (f == 0) := ⟨_, rfl⟩
  rw [← hfz]
  have hF := Lib.hid hfz
  clear hfz hf
  go_upto_region 6 with fail
  simp only [List.append_eq, List.cons_append, List.nil_append]
  rcases Bool.eq_false_or_eq_true b with hb | hb
  · subst hb
    have hsh : shape 6 true n f s l = false := by simp [shape, ← hF.out]
    have hS := Lib.hid hsh
    clear hsh hi hp
    go_wp2_with fail
    go_ret
    exact ⟨ret_int (by rw [hV'.out, if_neg h13, if_pos hS.out]), bkr⟩
  subst hb
  rcases Classical.em (n = 0) with hn0 | hn0
  rotate_left
  · have hn1 : (n != 0) = true := by simpa using hn0
    have hsh : shape 6 false n f s l = false := by simp [shape, ← hF.out, hn0]
    have hS := Lib.hid hsh
    clear hsh hi hp
    go_wp2_with fail
    go_ret
    exact ⟨ret_int (by rw [hV'.out, if_neg h13, if_pos hS.out]), bkr⟩
  subst hn0
  cases fz
  · have hsh : shape 6 false 0 f s l = false := by simp [shape, ← hF.out]
    have hS := Lib.hid hsh
    clear hsh hi hp
    go_wp2_with fail
    go_ret
    exact ⟨ret_int (by rw [hV'.out, if_neg h13, if_pos hS.out]), bkr⟩
  cases s with
  | cons c s =>
    have hsh : shape 6 false 0 f (c :: s) l = false := by simp [shape, ← hF.out]
    have hS := Lib.hid hsh
    clear hsh hi hp
    go_wp2_with fail
    go_ret
    exact ⟨ret_int (by rw [hV'.out, if_neg h13, if_pos hS.out]), bkr⟩
  | nil =>
  have hl2 : l = [] := List.eq_nil_of_length_eq_zero (by omega)
  subst hl2
  clear hl1 hl0
  have hsh : shape 6 false 0 f [] [] = true := by simp [shape, ← hF.out]
  have hS := Lib.hid hsh
  clear hsh
  have y5 : w2.cell? ⟨w.heap.size, 5, none⟩ = some (.slice A 0 cap) := y5
  have hV2 := Lib.hid (show checkV (.mk 6 false 0 f [] []) d = 0 by rw [hV'.out, if_neg h13, if_neg (by rw [hS.out]; simp), if_neg (by simp), if_neg (by simp [checkVL]), if_neg (by decide)] <;> simp [checkVL])
  clear hi hp hS hV'
  go_wp2_with fail
  go_loopw [8] (fun a8 wr => a8 = .int .i64 0 ∧ wr = w2) (fun _ _ => 0)
  case atStart => exact ⟨rfl, rfl⟩
  case round =>
    obtain ⟨rfl, rfl⟩ := hrel
    have cr : Calls Try.prog 57 #[.slice A 0 cap] wr fun e w' => e = .returned (.bool true) ∧ Below wr.heap.size wr w' := rrises_c [] A cap wr (fun i x hx => by cases hx) (by simp)
    go_wp2_with ((with_reducible refine cr.mono ?_); rintro e w3 ⟨rfl, hb3⟩)
    go_ret
    exact ⟨ret_int hV2.out.symm, bkr.trans (hb3.mono bkr.size)⟩

set_option maxRecDepth 8000 in
set_option maxHeartbeats 4000000 in
theorem rck7 (b : Bool) (n : Int) (f : Nat) (s : List UInt8) (l : List Val) (A : Option Addr) (cap : Nat) (w : World) (d : Nat) (hf : U64 f) (hlb : l.length ≤ 140737488351232) (hl : l.length ≤ cap) (hP : Parts w A l) (hd : d ≤ 14) (h13 : ¬ 13 < d)
    (ih : ∀ (i : Nat) (x : Val), l[i]? = some x → ∀ (u : Value) (w : World) (d : Nat), Has w u x → d ≤ 14 → Calls Try.prog 44 #[u, .int .i64 d] w (IntEnds (checkV x d) w)) :
    Calls Try.prog 44 #[valV 7 b n f s A l.length cap, .int .i64 d] w (IntEnds (checkV (.mk 7 b n f s l) d) w) := by
  have hV' := Lib.hid (show checkV (.mk 7 b n f s l) d = (if 13 < d then 3 else if shape 7 b n f s l = false then 6 else if 500 < s.length ∨ 1000 < l.length then 3 else if checkVL l (d + 1) ≠ 0 then checkVL l (d + 1) else if (7 : Int) = 6 ∧ risesV l = false then 6 else 0) by rw [checkV])
  have cs : ∀ w : World, Calls Try.prog 56 #[.float .f64 f] w fun e w' => e = .returned (.bool (Fl.neg f)) ∧ Below w.heap.size w w' := fun w => (signbit_c f w hf).mono fun e w' ⟨h1, h2⟩ => ⟨h1, h2 ▸ Below.refl _ _⟩
  have h13' : ¬ (13 : Int) < d := by omega
  go_enter Try.func44, Try.ntmps44
  go_upto_region 1 with fail
  obtain ⟨w1, hw1⟩ : ∃ w1, w1 = w.alloc (.cells #[.int .i64 7, .bool b, .int .i64 n, .float .f64 f, .string (st s), .slice A l.length cap] 31) := ⟨_, rfl⟩
  have bk : Below w.heap.size w w1 := hw1 ▸ below_alloc w _
  obtain ⟨x6, x0, x1, x2, x3, x4, x5⟩ : Box w1 w.heap.size 7 b n f s A l.length cap := hw1 ▸ Box.new w 7 b n f s A l.length cap _
  rw [← hw1]
  clear hw1
  have hi := Lib.hid ih
  have hp := Lib.hid hP
  clear ih hP
  go_upto_region 4 with fail
  go_cut [6] (fun a6 wx => a6 = .bool (f == 0) ∧ Below w1.heap.size w1 wx)
  case first =>
    clear hV' hi hp
    refine zero_cases _ hf (fun e1 e2 e3 e4 => ?_) (fun e1 e2 e3 => ?_) (fun e1 e2 => ?_)
    all_goals
      have hE := Lib.hid e1
      clear e1
      go_wp2_with ((with_reducible refine (cs _).mono ?_); rintro e w2 ⟨rfl, hb2⟩)
      ((with_reducible show Met _ _ _); refine Met.intro ?_; go_step; (repeat' apply Exists.intro); refine ⟨?_, rfl⟩)
      exact ⟨by rw [hE.out], by first | exact hb2 | exact Below.refl _ _⟩
  case rest =>
  obtain ⟨rfl, hbr⟩ := hcut
  have y0 := (hbr.cell (p := ⟨w.heap.size, 0, none⟩) x6).trans x0
  have y1 := (hbr.cell (p := ⟨w.heap.size, 1, none⟩) x6).trans x1
  have y2 := (hbr.cell (p := ⟨w.heap.size, 2, none⟩) x6).trans x2
  have y4 := (hbr.cell (p := ⟨w.heap.size, 4, none⟩) x6).trans x4
  have y5 := (hbr.cell (p := ⟨w.heap.size, 5, none⟩) x6).trans x5
  have y6 := Nat.lt_of_lt_of_le x6 hbr.size
  have bkr := bk.trans (hbr.mono bk.size)
  clear x0 x1 x2 x3 x4 x5 x6 hbr bk cs
  generalize wc = w2 at *
  obtain ⟨fz, hfz⟩ : ∃ fz, fz = (f == 0) := ⟨_, rfl⟩
  rw [← hfz]
  have hF := Lib.hid hfz
  clear hfz hf
  go_upto_region 6 with fail
  simp only [List.append_eq, List.cons_append, List.nil_append]
  rcases Bool.eq_false_or_eq_true b with hb | hb
  · subst hb
    have hsh : shape 7 true n f s l = false := by simp [shape, ← hF.out]
    have hS := Lib.hid hsh
    clear hsh hi hp
    go_wp2_with fail
    go_ret
    exact ⟨ret_int (by rw [hV'.out, if_neg h13, if_pos hS.out]), bkr⟩
  subst hb
  rcases Classical.em (n < 1) with hn0 | hn0
  · rcases Classical.em (n = 0) with h00 | h00
    · subst h00
      have hsh : shape 7 false 0 f s l = false := by simp [shape, ← hF.out]
      have hS := Lib.hid hsh
      clear hsh hi hp
      go_wp2_with fail
      go_ret
      exact ⟨ret_int (by rw [hV'.out, if_neg h13, if_pos hS.out]), bkr⟩
    have hn1 : (n != 0) = true := by simpa using h00
    have hn2 := Lib.hid (show ¬ 1 ≤ n by omega)
    have hsh : shape 7 false n f s l = false := by simp [shape, ← hF.out, hn2.out]
    have hS := Lib.hid hsh
    clear hsh hi hp
    go_wp2_with fail
    go_ret
    exact ⟨ret_int (by rw [hV'.out, if_neg h13, if_pos hS.out]), bkr⟩
  have hn1 : (n != 0) = true := by simp; omega
  have hn2 := Lib.hid (show 1 ≤ n by omega)
  have hn3 := Lib.hid (show ¬ n = 0 by omega)
  cases fz
  · have hsh : shape 7 false n f s l = false := by simp [shape, ← hF.out, hn2.out, hn3.out]
    have hS := Lib.hid hsh
    clear hsh hi hp
    go_wp2_with fail
    go_ret
    exact ⟨ret_int (by rw [hV'.out, if_neg h13, if_pos hS.out]), bkr⟩
  cases s with
  | cons c s =>
    have hsh : shape 7 false n f (c :: s) l = false := by simp [shape, ← hF.out, hn2.out, hn3.out]
    have hS := Lib.hid hsh
    clear hsh hi hp
    go_wp2_with fail
    go_ret
    exact ⟨ret_int (by rw [hV'.out, if_neg h13, if_pos hS.out]), bkr⟩
  | nil =>
  rcases Classical.em (0 < l.length) with hl0 | hl0
  · have hl1 : (0 : Int) < l.length := by omega
    have hl2 := Lib.hid (show l ≠ [] by intro h; rw [h] at hl0; exact absurd hl0 (by simp))
    have hsh : shape 7 false n f [] l = false := by simp [shape, ← hF.out, hn2.out, hn3.out, hl2.out]
    have hS := Lib.hid hsh
    clear hsh hi hp
    go_wp2_with fail
    go_ret
    exact ⟨ret_int (by rw [hV'.out, if_neg h13, if_pos hS.out]), bkr⟩
  have hl2 : l = [] := List.eq_nil_of_length_eq_zero (by omega)
  subst hl2
  have hsh : shape 7 false n f [] [] = true := by simp [shape, ← hF.out, hn2.out, hn3.out]
  have hS := Lib.hid hsh
  clear hsh
  have y5 : w2.cell? ⟨w.heap.size, 5, none⟩ = some (.slice A 0 cap) := y5
  have hV2 := Lib.hid (show checkV (.mk 7 false n f [] []) d = 0 by rw [hV'.out, if_neg h13, if_neg (by rw [hS.out]; simp), if_neg (by simp)] <;> simp [checkVL])
  clear hi hp hS hV'
  go_wp2_with fail
  go_loopw [8] (fun a8 wr => a8 = .int .i64 0 ∧ wr = w2) (fun _ _ => 0)
  case atStart => exact ⟨rfl, rfl⟩
  case round =>
    obtain ⟨rfl, rfl⟩ := hrel
    go_wp2_with fail
    go_ret
    exact ⟨ret_int hV2.out.symm, bkr⟩

set_option maxRecDepth 8000 in
set_option maxHeartbeats 4000000 in
theorem rck8 (b : Bool) (n : Int) (f : Nat) (s : List UInt8) (l : List Val) (A : Option Addr) (cap : Nat) (w : World) (d : Nat) (hf : U64 f) (hlb : l.length ≤ 140737488351232) (hl : l.length ≤ cap) (hP : Parts w A l) (hd : d ≤ 14) (h13 : ¬ 13 < d)
    (ih : ∀ (i : Nat) (x : Val), l[i]? = some x → ∀ (u : Value) (w : World) (d : Nat), Has w u x → d ≤ 14 → Calls Try.prog 44 #[u, .int .i64 d] w (IntEnds (checkV x d) w)) :
    Calls Try.prog 44 #[valV 8 b n f s A l.length cap, .int .i64 d] w (IntEnds (checkV (.mk 8 b n f s l) d) w) := by
  have hV' := Lib.hid (show checkV (.mk 8 b n f s l) d = (if 13 < d then 3 else if shape 8 b n f s l = false then 6 else if 500 < s.length ∨ 1000 < l.length then 3 else if checkVL l (d + 1) ≠ 0 then checkVL l (d + 1) else if (8 : Int) = 6 ∧ risesV l = false then 6 else 0) by rw [checkV])
  have cs : ∀ w : World, Calls Try.prog 56 #[.float .f64 f] w fun e w' => e = .returned (.bool (Fl.neg f)) ∧ Below w.heap.size w w' := fun w => (signbit_c f w hf).mono fun e w' ⟨h1, h2⟩ => ⟨h1, h2 ▸ Below.refl _ _⟩
  have h13' : ¬ (13 : Int) < d := by omega
  go_enter Try.func44, Try.ntmps44
  go_upto_region 1 with fail
  obtain ⟨w1, hw1⟩ : ∃ w1, w1 = w.alloc (.cells #[.int .i64 8, .bool b, .int .i64 n, .float .f64 f, .string (st s), .slice A l.length cap] 31) := ⟨_, rfl⟩
  have bk : Below w.heap.size w w1 := hw1 ▸ below_alloc w _
  obtain ⟨x6, x0, x1, x2, x3, x4, x5⟩ : Box w1 w.heap.size 8 b n f s A l.length cap := hw1 ▸ Box.new w 8 b n f s A l.length cap _
  rw [← hw1]
  clear hw1
  have hi := Lib.hid ih
  have hp := Lib.hid hP
  clear ih hP
  go_upto_region 4 with fail
  go_cut [6] (fun a6 wx => a6 = .bool (f == 0) ∧ Below w1.heap.size w1 wx)
  case first =>
    clear hV' hi hp
    refine zero_cases _ hf (fun e1 e2 e3 e4 => ?_) (fun e1 e2 e3 => ?_) (fun e1 e2 => ?_)
    all_goals
      have hE := Lib.hid e1
      clear e1
      go_wp2_with ((with_reducible refine (cs _).mono ?_); rintro e w2 ⟨rfl, hb2⟩)
      ((with_reducible show Met _ _ _); refine Met.intro ?_; go_step; (repeat' apply Exists.intro); refine ⟨?_, rfl⟩)
      exact ⟨by rw [hE.out], by first | exact hb2 | exact Below.refl _ _⟩
  case rest =>
  obtain ⟨rfl, hbr⟩ := hcut
  have y0 := (hbr.cell (p := ⟨w.heap.size, 0, none⟩) x6).trans x0
  have y1 := (hbr.cell (p := ⟨w.heap.size, 1, none⟩) x6).trans x1
  have y2 := (hbr.cell (p := ⟨w.heap.size, 2, none⟩) x6).trans x2
  have y4 := (hbr.cell (p := ⟨w.heap.size, 4, none⟩) x6).trans x4
  have y5 := (hbr.cell (p := ⟨w.heap.size, 5, none⟩) x6).trans x5
  have y6 := Nat.lt_of_lt_of_le x6 hbr.size
  have bkr := bk.trans (hbr.mono bk.size)
  clear x0 x1 x2 x3 x4 x5 x6 hbr bk cs
  generalize wc = w2 at *
  obtain ⟨fz, hfz⟩ : ∃ fz, fz = (f == 0) := ⟨_, rfl⟩
  rw [← hfz]
  have hF := Lib.hid hfz
  clear hfz hf
  go_upto_region 6 with fail
  simp only [List.append_eq, List.cons_append, List.nil_append]
  rcases Bool.eq_false_or_eq_true b with hb | hb
  · subst hb
    have hsh : shape 8 true n f s l = false := by simp [shape, ← hF.out]
    have hS := Lib.hid hsh
    clear hsh hi hp
    go_wp2_with fail
    go_ret
    exact ⟨ret_int (by rw [hV'.out, if_neg h13, if_pos hS.out]), bkr⟩
  subst hb
  rcases Classical.em (n < 1) with hn0 | hn0
  · rcases Classical.em (n = 0) with h00 | h00
    · subst h00
      have hsh : shape 8 false 0 f s l = false := by simp [shape, ← hF.out]
      have hS := Lib.hid hsh
      clear hsh hi hp
      go_wp2_with fail
      go_ret
      exact ⟨ret_int (by rw [hV'.out, if_neg h13, if_pos hS.out]), bkr⟩
    have hn1 : (n != 0) = true := by simpa using h00
    have hn2 := Lib.hid (show ¬ 1 ≤ n by omega)
    have hsh : shape 8 false n f s l = false := by simp [shape, ← hF.out, hn2.out]
    have hS := Lib.hid hsh
    clear hsh hi hp
    go_wp2_with fail
    go_ret
    exact ⟨ret_int (by rw [hV'.out, if_neg h13, if_pos hS.out]), bkr⟩
  have hn1 : (n != 0) = true := by simp; omega
  have hn2 := Lib.hid (show 1 ≤ n by omega)
  have hn3 := Lib.hid (show ¬ n = 0 by omega)
  cases fz
  · have hsh : shape 8 false n f s l = false := by simp [shape, ← hF.out, hn2.out, hn3.out]
    have hS := Lib.hid hsh
    clear hsh hi hp
    go_wp2_with fail
    go_ret
    exact ⟨ret_int (by rw [hV'.out, if_neg h13, if_pos hS.out]), bkr⟩
  cases s with
  | cons c s =>
    have hsh : shape 8 false n f (c :: s) l = false := by simp [shape, ← hF.out, hn2.out, hn3.out]
    have hS := Lib.hid hsh
    clear hsh hi hp
    go_wp2_with fail
    go_ret
    exact ⟨ret_int (by rw [hV'.out, if_neg h13, if_pos hS.out]), bkr⟩
  | nil =>
  rcases Classical.em (0 < l.length) with hl0 | hl0
  · have hl1 : (0 : Int) < l.length := by omega
    have hl2 := Lib.hid (show l ≠ [] by intro h; rw [h] at hl0; exact absurd hl0 (by simp))
    have hsh : shape 8 false n f [] l = false := by simp [shape, ← hF.out, hn2.out, hn3.out, hl2.out]
    have hS := Lib.hid hsh
    clear hsh hi hp
    go_wp2_with fail
    go_ret
    exact ⟨ret_int (by rw [hV'.out, if_neg h13, if_pos hS.out]), bkr⟩
  have hl2 : l = [] := List.eq_nil_of_length_eq_zero (by omega)
  subst hl2
  have hsh : shape 8 false n f [] [] = true := by simp [shape, ← hF.out, hn2.out, hn3.out]
  have hS := Lib.hid hsh
  clear hsh
  have y5 : w2.cell? ⟨w.heap.size, 5, none⟩ = some (.slice A 0 cap) := y5
  have hV2 := Lib.hid (show checkV (.mk 8 false n f [] []) d = 0 by rw [hV'.out, if_neg h13, if_neg (by rw [hS.out]; simp), if_neg (by simp)] <;> simp [checkVL])
  clear hi hp hS hV'
  go_wp2_with fail
  go_loopw [8] (fun a8 wr => a8 = .int .i64 0 ∧ wr = w2) (fun _ _ => 0)
  case atStart => exact ⟨rfl, rfl⟩
  case round =>
    obtain ⟨rfl, rfl⟩ := hrel
    go_wp2_with fail
    go_ret
    exact ⟨ret_int hV2.out.symm, bkr⟩

set_option maxRecDepth 8000 in
set_option maxHeartbeats 4000000 in
theorem rckX (k : Int) (hk : k < 0 ∨ 8 < k) (b : Bool) (n : Int) (f : Nat) (s : List UInt8) (l : List Val) (A : Option Addr) (cap : Nat) (w : World) (d : Nat) (hf : U64 f) (hlb : l.length ≤ 140737488351232) (hl : l.length ≤ cap) (hP : Parts w A l) (hd : d ≤ 14) (h13 : ¬ 13 < d)
    (ih : ∀ (i : Nat) (x : Val), l[i]? = some x → ∀ (u : Value) (w : World) (d : Nat), Has w u x → d ≤ 14 → Calls Try.prog 44 #[u, .int .i64 d] w (IntEnds (checkV x d) w)) :
    Calls Try.prog 44 #[valV k b n f s A l.length cap, .int .i64 d] w (IntEnds (checkV (.mk k b n f s l) d) w) := by
  have hV' := Lib.hid (show checkV (.mk k b n f s l) d = (if 13 < d then 3 else if shape k b n f s l = false then 6 else if 500 < s.length ∨ 1000 < l.length then 3 else if checkVL l (d + 1) ≠ 0 then checkVL l (d + 1) else if (k : Int) = 6 ∧ risesV l = false then 6 else 0) by rw [checkV])
  have cs : ∀ w : World, Calls Try.prog 56 #[.float .f64 f] w fun e w' => e = .returned (.bool (Fl.neg f)) ∧ Below w.heap.size w w' := fun w => (signbit_c f w hf).mono fun e w' ⟨h1, h2⟩ => ⟨h1, h2 ▸ Below.refl _ _⟩
  have h13' : ¬ (13 : Int) < d := by omega
  go_enter Try.func44, Try.ntmps44
  go_upto_region 1 with fail
  obtain ⟨w1, hw1⟩ : ∃ w1, w1 = w.alloc (.cells #[.int .i64 k, .bool b, .int .i64 n, .float .f64 f, .string (st s), .slice A l.length cap] 31) := ⟨_, rfl⟩
  have bk : Below w.heap.size w w1 := hw1 ▸ below_alloc w _
  obtain ⟨x6, x0, x1, x2, x3, x4, x5⟩ : Box w1 w.heap.size k b n f s A l.length cap := hw1 ▸ Box.new w k b n f s A l.length cap _
  rw [← hw1]
  clear hw1
  have hi := Lib.hid ih
  have hp := Lib.hid hP
  clear ih hP
  go_upto_region 4 with fail
  go_cut [6] (fun a6 wx => a6 = .bool (f == 0) ∧ Below w1.heap.size w1 wx)
  case first =>
    clear hV' hi hp
    refine zero_cases _ hf (fun e1 e2 e3 e4 => ?_) (fun e1 e2 e3 => ?_) (fun e1 e2 => ?_)
    all_goals
      have hE := Lib.hid e1
      clear e1
      go_wp2_with ((with_reducible refine (cs _).mono ?_); rintro e w2 ⟨rfl, hb2⟩)
      ((with_reducible show Met _ _ _); refine Met.intro ?_; go_step; (repeat' apply Exists.intro); refine ⟨?_, rfl⟩)
      exact ⟨by rw [hE.out], by first | exact hb2 | exact Below.refl _ _⟩
  case rest =>
  obtain ⟨rfl, hbr⟩ := hcut
  have y0 := (hbr.cell (p := ⟨w.heap.size, 0, none⟩) x6).trans x0
  have y1 := (hbr.cell (p := ⟨w.heap.size, 1, none⟩) x6).trans x1
  have y2 := (hbr.cell (p := ⟨w.heap.size, 2, none⟩) x6).trans x2
  have y4 := (hbr.cell (p := ⟨w.heap.size, 4, none⟩) x6).trans x4
  have y5 := (hbr.cell (p := ⟨w.heap.size, 5, none⟩) x6).trans x5
  have y6 := Nat.lt_of_lt_of_le x6 hbr.size
  have bkr := bk.trans (hbr.mono bk.size)
  clear x0 x1 x2 x3 x4 x5 x6 hbr bk cs
  generalize wc = w2 at *
  obtain ⟨fz, hfz⟩ : ∃ fz, fz = (f == 0) := ⟨_, rfl⟩
  rw [← hfz]
  have hF := Lib.hid hfz
  clear hfz hf
  go_upto_region 6 with fail
  simp only [List.append_eq, List.cons_append, List.nil_append]
  have hS : Hid (shape k b n f s l = false) := by
    rcases hk with h | h
    · exact shape_lo h b n f s l
    · exact shape_hi h b n f s l
  have e7 : (k == 7) = false := by simp; omega
  have e8 : (k == 8) = false := by simp; omega
  clear hi hp
  rcases hk with h | h
  · go_wp2_with fail
    go_ret
    exact ⟨ret_int (by rw [hV'.out, if_neg h13, if_pos hS.out]), bkr⟩
  · have h0 : ¬ k < 0 := by omega
    go_wp2_with fail
    go_ret
    exact ⟨ret_int (by rw [hV'.out, if_neg h13, if_pos hS.out]), bkr⟩

end Go.Proofs.Ytglcnnnjdkjggaa
