
/-
  Predicates of one value: may they be?
-/
import Derived.Test.YtglcnnnjdkjggaaValH
set_option linter.unusedSimpArgs false
set_option linter.unusedVariables false
namespace Go.Proofs.Ytglcnnnjdkjggaa
open Go.RowKit

abbrev predV (op : List UInt8) (A : Option Addr) (n c : Nat) (K : Option Addr) (kn kc : Nat) : Value := .agg #[.string (st op), .slice A n c, .slice K kn kc]
/-- the names of predicates of one value -/
def One (op : List UInt8) : Prop := op = [101, 113] ∨ op = [110, 101, 113] ∨ op = [108, 116] ∨ op = [108, 116, 101] ∨ op = [103, 116] ∨ op = [103, 116, 101] ∨ op = [115, 116, 97, 114, 116, 105, 110, 103, 87, 105, 116, 104] ∨ op = [101, 110, 100, 105, 110, 103, 87, 105, 116, 104] ∨ op = [99, 111, 110, 116, 97, 105, 110, 105, 110, 103]

set_option maxRecDepth 8000 in
theorem preds_c (op : List UInt8) (h : One op) (w : World) : Calls Try.prog 21 #[.string (st op)] w fun e w' => e = .returned (.tuple #[.int .i64 1, .bool true]) ∧ Below w.heap.size w w' := by
  rcases h with rfl | rfl | rfl | rfl | rfl | rfl | rfl | rfl | rfl
  all_goals
    go_enter Try.func21, Try.ntmps21
    go_wp2_with fail
    exact bodyPost_ret (v := .tuple #[.int .i64 1, .bool true]) (by simp only [results, Try.results21]; go_simp) rfl ⟨rfl, Below.refl _ _⟩
set_option maxRecDepth 8000 in
theorem predsWhat_c (w : World) : Calls Try.prog 21 #[.string (st [119, 104, 97, 116])] w fun e w' => e = .returned (.tuple #[.int .i64 0, .bool false]) ∧ Below w.heap.size w w' := by
  go_enter Try.func21, Try.ntmps21
  go_wp2_with fail
  exact bodyPost_ret (v := .tuple #[.int .i64 0, .bool false]) (by simp only [results, Try.results21]; go_simp) rfl ⟨rfl, Below.refl _ _⟩
set_option maxRecDepth 8000 in
theorem bad_c (u : Value) (x : Val) (w : World) (hx : Has w u x) : Calls Try.prog 22 #[u] w fun e w' => e = .returned (.bool (!(CheckV x == 0))) ∧ Below w.heap.size w w' := by
  have cs : ∀ w', Below w.heap.size w w' → Calls Try.prog 23 #[u] w' (IntEnds (CheckV x) w') := fun w' hb => Check_c x u w' (hx.keep hb)
  unfold IntEnds at cs
  obtain ⟨A, cap, rfl, _⟩ := hx.open
  have hq : (CheckV x != 0) = !(CheckV x == 0) := rfl
  clear hx
  generalize CheckV x = r at *
  go_enter Try.func22, Try.ntmps22
  go_wp2_with ((with_reducible refine (cs _ (below_alloc _ _)).mono ?_); rintro e w2 ⟨rfl, hb2⟩)
  go_ret
  exact ⟨rfl, (below_alloc _ _).trans (hb2.mono (below_alloc _ _).size)⟩
def IndexEnds (r0 : Bool) (w : World) (e : Ending) (w' : World) : Prop := ∃ r : Int, e = .returned (.int .i64 r) ∧ decide (0 ≤ r) = r0 ∧ Below w.heap.size w w'
/-- may one of some not be? -/
def anyBad (l : List Val) : Bool := l.any fun x => !(CheckV x == 0)
theorem anyBad_snoc {l : List Val} {i : Nat} {x : Val} (h : l[i]? = some x) : anyBad (l.take (i + 1)) = (anyBad (l.take i) || !(CheckV x == 0)) := by
  obtain ⟨hi, rfl⟩ := List.getElem?_eq_some_iff.1 h
  unfold anyBad
  rw [List.take_succ_eq_append_getElem hi, List.any_append]
  simp
set_option maxRecDepth 8000 in
set_option maxHeartbeats 4000000 in
theorem indexBad_c (l : List Val) (A : Option Addr) (cap : Nat) (w : World) (hp : Parts w A l) (hl : l.length ≤ maxLen) :
    Calls Try.prog 41 #[.slice A l.length cap, .func (.func 22) #[] #[]] w (IndexEnds (anyBad l) w) := by
  unfold maxLen at hl
  go_enter Try.func41, Try.ntmps41
  go_wp2_with fail
  go_loopw [8] (fun a8 wr => ∃ i : Nat, a8 = .int .i64 i ∧ i ≤ l.length ∧ Hid (anyBad (l.take i) = false) ∧ Below w.heap.size w wr) (fun a _ => l.length - (intOf a).toNat)
  case atStart => exact ⟨0, rfl, Nat.zero_le _, rfl, Below.refl _ _⟩
  case round =>
    obtain ⟨i, rfl, hi, hno, hbr⟩ := hrel
    by_cases hil : i < l.length
    · have hil' : (i : Int) < l.length := by omega
      obtain ⟨ad, k', b', n', f', s', B', len', c', rfl, hx, hat⟩ := hp i l[i] (by simp)
      obtain ⟨q6, q0, q1, q2, q3, q4, q5⟩ := hat.keep hbr
      have cs := bad_c _ l[i] wr (hx.keep hbr)
      have hst := Lib.hid (anyBad_snoc (l := l) (i := i) (x := l[i]) (by simp))
      have wi : IntKind.i64.wrap ((i : Int) + 1) = (i : Int) + 1 := by rw [wrap_i64]; omega
      have hle : ∀ j, anyBad (l.take j) = true → anyBad l = true := fun j h => by
        unfold anyBad at h ⊢
        rw [List.any_eq_true] at h ⊢
        obtain ⟨y, h1, h2⟩ := h
        exact ⟨y, List.mem_of_mem_take h1, h2⟩
      generalize l[i] = x at *
      clear hat hx hp
      cases he : (CheckV x == 0)
      · rw [he] at cs
        have hyes := Lib.hid (hle (i + 1) (by rw [hst.out, he]; simp))
        clear hle
        go_wp2_with ((with_reducible refine cs.mono ?_); rintro e w2 ⟨rfl, hb2⟩)
        go_ret
        exact ⟨_, rfl, by rw [hyes.out]; simp, hbr.trans (hb2.mono hbr.size)⟩
      · rw [he] at cs
        go_wp2_with ((with_reducible refine cs.mono ?_); rintro e w2 ⟨rfl, hb2⟩)
        refine ⟨⟨i + 1, rfl, hil, ?_, hbr.trans (hb2.mono hbr.size)⟩, by simp [intOf]; omega⟩
        show _ = _
        rw [hst.out, hno.out, he]; rfl
    · have hil' : ¬ (i : Int) < l.length := by omega
      have hf := hno.out
      rw [List.take_of_length_le (by omega)] at hf
      have hF := Lib.hid hf
      clear hf hp hno
      go_wp2_with fail
      go_ret
      exact ⟨_, rfl, by rw [hF.out]; rfl, hbr⟩
set_option maxRecDepth 8000 in
set_option maxHeartbeats 4000000 in
theorem containsBad_c (l : List Val) (A : Option Addr) (cap : Nat) (w : World) (hp : Parts w A l) (hl : l.length ≤ maxLen) :
    Calls Try.prog 24 #[.slice A l.length cap, .func (.func 22) #[] #[]] w fun e w' => e = .returned (.bool (anyBad l)) ∧ Below w.heap.size w w' := by
  have cs : Calls Try.prog 41 #[.slice A l.length cap, .func (.func 22) #[] #[]] w fun e w' => ∃ r : Int, e = .returned (.int .i64 r) ∧ decide (0 ≤ r) = anyBad l ∧ Below w.heap.size w w' := indexBad_c l A cap w hp hl
  clear hp
  go_enter Try.func24, Try.ntmps24
  go_wp2_with ((with_reducible refine cs.mono ?_); rintro e w2 ⟨r, rfl, hd, hb2⟩)
  go_ret
  exact ⟨rfl, hb2⟩
/-- no predicate stands in none -/
theorem indexKids_c (c : Nat) (F : Value) (w : World) : Calls Try.prog 42 #[.slice none 0 c, F] w fun e w' => e = .returned (.int .i64 (-1)) ∧ Below w.heap.size w w' := by
  go_enter Try.func42, Try.ntmps42
  go_wp2_with fail
  go_loopw [8] (fun a8 wr => a8 = .int .i64 0 ∧ wr = w) (fun _ _ => 0)
  case atStart => exact ⟨rfl, rfl⟩
  case round =>
    obtain ⟨rfl, rfl⟩ := hrel
    go_wp2_with fail
    go_ret
    exact ⟨rfl, Below.refl _ _⟩
theorem containsKids_c (c : Nat) (F : Value) (w : World) : Calls Try.prog 25 #[.slice none 0 c, F] w fun e w' => e = .returned (.bool false) ∧ Below w.heap.size w w' := by
  have cs := indexKids_c c F w
  go_enter Try.func25, Try.ntmps25
  go_wp2_with ((with_reducible refine cs.mono ?_); rintro e w2 ⟨rfl, hb2⟩)
  go_ret
  exact ⟨rfl, hb2⟩
theorem anyBad_one (x : Val) : anyBad [x] = !(CheckV x == 0) := by simp [anyBad]
set_option maxRecDepth 8000 in
set_option maxHeartbeats 4000000 in
theorem pcheck_c (op : List UInt8) (h : One op) (x : Val) (A : Option Addr) (cap : Nat) (w : World) (hp : Parts w A [x]) :
    Calls Try.prog 15 #[predV op A 1 cap none 0 0, .int .i64 1] w fun e w' => e = .returned (.bool (CheckV x == 0)) ∧ Below w.heap.size w w' := by
  have cp : ∀ w, Calls Try.prog 21 #[.string (st op)] w fun e w' => e = .returned (.tuple #[.int .i64 1, .bool true]) ∧ Below w.heap.size w w' := fun w => preds_c op h w
  have cb : ∀ w', Below w.heap.size w w' → Calls Try.prog 24 #[.slice A 1 cap, .func (.func 22) #[] #[]] w' fun e w'' => e = .returned (.bool (!(CheckV x == 0))) ∧ Below w'.heap.size w' w'' := fun w' hb => by
    have := containsBad_c [x] A cap w' (hp.keep hb) (by simp [maxLen])
    rw [anyBad_one] at this
    exact this
  have ck := fun F w => containsKids_c 0 F w
  have e1 : (op == [97, 110, 100]) = false := by rcases h with rfl | rfl | rfl | rfl | rfl | rfl | rfl | rfl | rfl <;> decide
  have e2 : (op == [111, 114]) = false := by rcases h with rfl | rfl | rfl | rfl | rfl | rfl | rfl | rfl | rfl <;> decide
  have e3 : (op == [110, 111, 116]) = false := by rcases h with rfl | rfl | rfl | rfl | rfl | rfl | rfl | rfl | rfl <;> decide
  clear h hp
  generalize (CheckV x == 0) = r at *
  go_enter Try.func15, Try.ntmps15
  go_upto_region 1 with fail
  obtain ⟨w1, hw1⟩ : ∃ w1, w1 = (w.alloc (.cells #[.string (st op), .slice A 1 cap, .slice none 0 0] 25)).alloc (.cells #[.int .i64 1] 3) := ⟨_, rfl⟩
  have bk : Below w.heap.size w w1 := hw1 ▸ (below_alloc w _).alloc (by simp) _
  have x6 : w.heap.size + 1 < w1.heap.size := by rw [hw1]; simp
  have x0 : w1.cell? ⟨w.heap.size, 0, none⟩ = some (.string (st op)) := by rw [hw1]; simp [go_sem]
  have x1 : w1.cell? ⟨w.heap.size, 1, none⟩ = some (.slice A 1 cap) := by rw [hw1]; simp [go_sem]
  have x2 : w1.cell? ⟨w.heap.size, 2, none⟩ = some (.slice none 0 0) := by rw [hw1]; simp [go_sem]
  have y0 : w1.cell? ⟨w.heap.size + 1, 0, none⟩ = some (.int .i64 1) := by rw [hw1]; simp [go_sem]
  have x7 : w.heap.size < w1.heap.size := by omega
  rw [← hw1]
  clear hw1
  have db := fun p : In w1 => cb p.w (p.back bk)
  clear cb
  cases r
  · go_wp2_with (first | ((with_reducible refine (cp _).mono ?_); rintro e w2 ⟨rfl, hb2⟩; (first | ((with_reducible obtain ⟨p, hw''⟩ := In.of2 p hb2); subst hw'') | (obtain ⟨p, hw''⟩ := In.of hb2; subst hw''))) | ((with_reducible refine (db _).mono ?_); rintro e w3 ⟨rfl, hb3⟩; (first | ((with_reducible obtain ⟨p, hw''⟩ := In.of2 p hb3); subst hw'') | (obtain ⟨p, hw''⟩ := In.of hb3; subst hw''))) | ((with_reducible refine (ck _ _).mono ?_); rintro e w4 ⟨rfl, hb4⟩; (first | ((with_reducible obtain ⟨p, hw''⟩ := In.of2 p hb4); subst hw'') | (obtain ⟨p, hw''⟩ := In.of hb4; subst hw''))))
    go_ret
    exact ⟨rfl, p.back bk⟩
  · go_wp2_with (first | ((with_reducible refine (cp _).mono ?_); rintro e w2 ⟨rfl, hb2⟩; (first | ((with_reducible obtain ⟨p, hw''⟩ := In.of2 p hb2); subst hw'') | (obtain ⟨p, hw''⟩ := In.of hb2; subst hw''))) | ((with_reducible refine (db _).mono ?_); rintro e w3 ⟨rfl, hb3⟩; (first | ((with_reducible obtain ⟨p, hw''⟩ := In.of2 p hb3); subst hw'') | (obtain ⟨p, hw''⟩ := In.of hb3; subst hw''))) | ((with_reducible refine (ck _ _).mono ?_); rintro e w4 ⟨rfl, hb4⟩; (first | ((with_reducible obtain ⟨p, hw''⟩ := In.of2 p hb4); subst hw'') | (obtain ⟨p, hw''⟩ := In.of hb4; subst hw''))))
    go_ret
    exact ⟨rfl, p.back bk⟩
end Go.Proofs.Ytglcnnnjdkjggaa
