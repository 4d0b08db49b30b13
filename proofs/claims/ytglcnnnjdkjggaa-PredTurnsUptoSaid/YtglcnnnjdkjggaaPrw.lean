
/-
  The names of predicates, whatever text comes: parse.Preds, the reference's Preds.
-/
import Derived.Test.YtglcnnnjdkjggaaPrdA
set_option linter.unusedSimpArgs false
set_option linter.unusedVariables false
namespace Go.Proofs.Ytglcnnnjdkjggaa
open Go.RowKit

def onesL : List (List UInt8) := [[101, 113], [110, 101, 113], [108, 116], [108, 116, 101], [103, 116], [103, 116, 101], [115, 116, 97, 114, 116, 105, 110, 103, 87, 105, 116, 104], [101, 110, 100, 105, 110, 103, 87, 105, 116, 104], [99, 111, 110, 116, 97, 105, 110, 105, 110, 103]]
def Two (op : List UInt8) : Prop := op = [98, 101, 116, 119, 101, 101, 110] ∨ op = [105, 110, 115, 105, 100, 101] ∨ op = [111, 117, 116, 115, 105, 100, 101]
def Any (op : List UInt8) : Prop := op = [119, 105, 116, 104, 105, 110] ∨ op = [119, 105, 116, 104, 111, 117, 116]
theorem one_mem (op : List UInt8) : One op ↔ op ∈ onesL := by simp [One, onesL]
instance (op : List UInt8) : Decidable (One op) := by unfold One; infer_instance
instance (op : List UInt8) : Decidable (Two op) := by unfold Two; infer_instance
instance (op : List UInt8) : Decidable (Any op) := by unfold Any; infer_instance
/-- how many values a predicate of this name has; is it one? -/
def predsN (op : List UInt8) : Int := if One op then 1 else if Two op then 2 else if Any op then -1 else 0
def predsB (op : List UInt8) : Bool := decide (One op ∨ Two op ∨ Any op)
set_option maxRecDepth 8000 in
set_option maxHeartbeats 2000000 in
theorem predsAll_c (op : List UInt8) (w : World) : Calls Try.prog 21 #[.string (st op)] w fun e w' => e = .returned (.tuple #[.int .i64 (predsN op), .bool (predsB op)]) ∧ Below w.heap.size w w' := by
  by_cases h1 : One op
  · have := preds_c op h1 w
    rw [show predsN op = 1 by simp [predsN, h1], show predsB op = true by simp [predsB, h1]]
    exact this
  · by_cases h2 : Two op
    · rw [show predsN op = 2 by simp [predsN, h1, h2], show predsB op = true by simp [predsB, h2]]
      clear h1
      rcases h2 with rfl | rfl | rfl
      all_goals
        go_enter Try.func21, Try.ntmps21
        go_wp2_with fail
        exact bodyPost_ret (v := .tuple #[.int .i64 2, .bool true]) (by simp only [results, Try.results21]; go_simp) rfl ⟨rfl, Below.refl _ _⟩
    · by_cases h3 : Any op
      · rw [show predsN op = -1 by simp [predsN, h1, h2, h3], show predsB op = true by simp [predsB, h3]]
        clear h1 h2
        rcases h3 with rfl | rfl
        all_goals
          go_enter Try.func21, Try.ntmps21
          go_wp2_with fail
          exact bodyPost_ret (v := .tuple #[.int .i64 (-1), .bool true]) (by simp only [results, Try.results21]; go_simp) rfl ⟨rfl, Below.refl _ _⟩
      · rw [show predsN op = 0 by simp [predsN, h1, h2, h3], show predsB op = false by simp [predsB, h1, h2, h3]]
        have e_eq : (op == [101, 113]) = false := by simpa using fun e => h1 (by subst e; simp [One])
        have e_neq : (op == [110, 101, 113]) = false := by simpa using fun e => h1 (by subst e; simp [One])
        have e_lt : (op == [108, 116]) = false := by simpa using fun e => h1 (by subst e; simp [One])
        have e_lte : (op == [108, 116, 101]) = false := by simpa using fun e => h1 (by subst e; simp [One])
        have e_gt : (op == [103, 116]) = false := by simpa using fun e => h1 (by subst e; simp [One])
        have e_gte : (op == [103, 116, 101]) = false := by simpa using fun e => h1 (by subst e; simp [One])
        have e_startingWith : (op == [115, 116, 97, 114, 116, 105, 110, 103, 87, 105, 116, 104]) = false := by simpa using fun e => h1 (by subst e; simp [One])
        have e_endingWith : (op == [101, 110, 100, 105, 110, 103, 87, 105, 116, 104]) = false := by simpa using fun e => h1 (by subst e; simp [One])
        have e_containing : (op == [99, 111, 110, 116, 97, 105, 110, 105, 110, 103]) = false := by simpa using fun e => h1 (by subst e; simp [One])
        have e_between : (op == [98, 101, 116, 119, 101, 101, 110]) = false := by simpa using fun e => h2 (by subst e; simp [Two])
        have e_inside : (op == [105, 110, 115, 105, 100, 101]) = false := by simpa using fun e => h2 (by subst e; simp [Two])
        have e_outside : (op == [111, 117, 116, 115, 105, 100, 101]) = false := by simpa using fun e => h2 (by subst e; simp [Two])
        have e_within : (op == [119, 105, 116, 104, 105, 110]) = false := by simpa using fun e => h3 (by subst e; simp [Any])
        have e_without : (op == [119, 105, 116, 104, 111, 117, 116]) = false := by simpa using fun e => h3 (by subst e; simp [Any])
        clear h1 h2 h3
        go_enter Try.func21, Try.ntmps21
        go_wp2_with fail
        exact bodyPost_ret (v := .tuple #[.int .i64 0, .bool false]) (by simp only [results, Try.results21]; go_simp) rfl ⟨rfl, Below.refl _ _⟩
/-- the reference's number: any where there is none -/
def rpredsN (op : List UInt8) : Int := if One op then 1 else if Two op then 2 else -1
set_option maxRecDepth 8000 in
set_option maxHeartbeats 4000000 in
theorem rpredsAll_c (op : List UInt8) (w : World) : Calls Try.prog 28 #[.string (st op)] w fun e w' => e = .returned (.tuple #[.int .i64 (rpredsN op), .bool (predsB op)]) ∧ Below w.heap.size w w' := by
  go_enter Try.func28, Try.ntmps28
  go_upto_region 2 with fail
  obtain ⟨w1, hw1⟩ : ∃ w1, w1 = w.alloc (.cells #[.string (st [101, 113]), .string (st [110, 101, 113]), .string (st [108, 116]), .string (st [108, 116, 101]), .string (st [103, 116]), .string (st [103, 116, 101]), .string (st [115, 116, 97, 114, 116, 105, 110, 103, 87, 105, 116, 104]), .string (st [101, 110, 100, 105, 110, 103, 87, 105, 116, 104]), .string (st [99, 111, 110, 116, 97, 105, 110, 105, 110, 103])] 9) := ⟨_, rfl⟩
  have bk : Below w.heap.size w w1 := hw1 ▸ below_alloc w _
  have hr : ∀ i, i < 9 → w1.cell? ⟨w.heap.size, i, none⟩ = some (.string (st (onesL.getD i []))) := by
    intro i hi
    rcases (by omega : i = 0 ∨ i = 1 ∨ i = 2 ∨ i = 3 ∨ i = 4 ∨ i = 5 ∨ i = 6 ∨ i = 7 ∨ i = 8) with rfl | rfl | rfl | rfl | rfl | rfl | rfl | rfl | rfl <;> (rw [hw1]; simp [go_sem, onesL])
  have hs : w.heap.size < w1.heap.size := by rw [hw1]; simp
  rw [← hw1]
  clear hw1
  go_wp2_with fail
  go_loopw [5] (fun a5 wr => ∃ i : Nat, a5 = .int .i64 i ∧ i ≤ 9 ∧ Hid (∀ j, j < i → onesL.getD j [] ≠ op) ∧ Below w1.heap.size w1 wr) (fun a _ => 9 - (intOf a).toNat)
  case atStart => exact ⟨0, rfl, Nat.zero_le _, fun j hj => absurd hj (Nat.not_lt_zero _), Below.refl _ _⟩
  case round =>
    obtain ⟨i, rfl, hi, hno, hbr⟩ := hrel
    have bkr := bk.trans (hbr.mono bk.size)
    by_cases hil : i < 9
    · have hil' : (i : Int) < 9 := by omega
      have hc := (hbr.cell (p := ⟨w.heap.size, i, none⟩) hs).trans (hr i hil)
      have hsr := Nat.lt_of_lt_of_le hs hbr.size
      have wi : IntKind.i64.wrap ((i : Int) + 1) = (i : Int) + 1 := by rw [wrap_i64]; omega
      by_cases he : onesL.getD i [] = op
      · have heb : (onesL.getD i [] == op) = true := by simpa using he
        have h1 : One op := by
          rw [one_mem, ← he, List.getD_eq_getElem?_getD, List.getElem?_eq_getElem (by simpa [onesL] using hil)]
          exact List.getElem_mem _
        have hN := Lib.hid (show rpredsN op = 1 by simp [rpredsN, h1])
        have hB := Lib.hid (show predsB op = true by simp [predsB, h1])
        clear hno hr h1 he
        generalize onesL.getD i [] = x at *
        go_wp2_with fail
        exact bodyPost_ret (v := .tuple #[.int .i64 1, .bool true]) (by simp only [results, Try.results28]; go_simp) rfl ⟨by rw [hN.out, hB.out], bkr⟩
      · have heb : (onesL.getD i [] == op) = false := by simpa using he
        have hno2 := Lib.hid (show ∀ j, j < i + 1 → onesL.getD j [] ≠ op from fun j hj => by
          by_cases e : j = i
          · subst e; exact he
          · exact hno.out j (by omega))
        clear hno hr he
        generalize onesL.getD i [] = x at *
        go_wp2_with fail
        exact ⟨⟨i + 1, rfl, hil, hno2.out, hbr⟩, by simp [intOf]; omega⟩
    · have hil' : ¬ (i : Int) < 9 := by omega
      have h1 : ¬ One op := by
        rw [one_mem]
        intro hm
        obtain ⟨j, hj, e⟩ := List.getElem_of_mem hm
        have hj9 : j < 9 := by simpa [onesL] using hj
        exact hno.out j (by omega) (by rw [List.getD_eq_getElem?_getD, List.getElem?_eq_getElem hj]; exact e)
      clear hno hr
      by_cases h2 : Two op
      · have hN := Lib.hid (show rpredsN op = 2 by simp [rpredsN, h1, h2])
        have hB := Lib.hid (show predsB op = true by simp [predsB, h2])
        clear h1
        rcases h2 with rfl | rfl | rfl
        all_goals
          go_wp2_with fail
          exact bodyPost_ret (v := .tuple #[.int .i64 2, .bool true]) (by simp only [results, Try.results28]; go_simp) rfl ⟨by rw [hN.out, hB.out], bkr⟩
      · by_cases h3 : Any op
        · have hN := Lib.hid (show rpredsN op = -1 by simp [rpredsN, h1, h2])
          have hB := Lib.hid (show predsB op = true by simp [predsB, h3])
          clear h1 h2
          rcases h3 with rfl | rfl
          all_goals
            go_wp2_with fail
            exact bodyPost_ret (v := .tuple #[.int .i64 (-1), .bool true]) (by simp only [results, Try.results28]; go_simp) rfl ⟨by rw [hN.out, hB.out], bkr⟩
        · have hN := Lib.hid (show rpredsN op = -1 by simp [rpredsN, h1, h2])
          have hB := Lib.hid (show predsB op = false by simp [predsB, h1, h2, h3])
          have e_between : (op == [98, 101, 116, 119, 101, 101, 110]) = false := by simpa using fun e => h2 (by subst e; simp [Two])
          have e_inside : (op == [105, 110, 115, 105, 100, 101]) = false := by simpa using fun e => h2 (by subst e; simp [Two])
          have e_outside : (op == [111, 117, 116, 115, 105, 100, 101]) = false := by simpa using fun e => h2 (by subst e; simp [Two])
          have e_within : (op == [119, 105, 116, 104, 105, 110]) = false := by simpa using fun e => h3 (by subst e; simp [Any])
          have e_without : (op == [119, 105, 116, 104, 111, 117, 116]) = false := by simpa using fun e => h3 (by subst e; simp [Any])
          clear h1 h2 h3
          go_wp2_with fail
          exact bodyPost_ret (v := .tuple #[.int .i64 (-1), .bool false]) (by simp only [results, Try.results28]; go_simp) rfl ⟨by rw [hN.out, hB.out], bkr⟩
end Go.Proofs.Ytglcnnnjdkjggaa
