
/-
  num.Sum and the law NumSums: sums of floats; a sum that is no number has bits that the tape gives, but it is canonical in the end.
-/
import Derived.Test.YtipjelkdbbhcpaaNumC
import Derived.Deep.LoopGhost
import Derived.Deep.Draws
set_option linter.unusedSimpArgs false
set_option linter.unusedVariables false
namespace Go.Proofs.Ytipjelkdbbhcpaa
open Go.RowKit

/-! a sum that is no number -/
def nanAns (w : World) (x y : Nat) : Nat := (Question.nanBits .f64 x y).cut (w.tape w.drawn (.nanBits .f64 x y))
theorem nanAns_isNaN (w : World) (x y : Nat) : Fl.isNaN (nanAns w x y) = true ∧ U64 (nanAns w x y) := by
  unfold nanAns
  generalize w.tape w.drawn (.nanBits .f64 x y) = t
  have e : (Question.nanBits .f64 x y).cut t = t % 2 * 9223372036854775808 + 9218868437227405312 + 1 + t / 2 % 4503599627370495 := rfl
  rw [e]
  have h1 : t % 2 = 0 ∨ t % 2 = 1 := by omega
  have h2 : t / 2 % 4503599627370495 < 4503599627370495 := Nat.mod_lt _ (by decide)
  generalize t / 2 % 4503599627370495 = q at *
  generalize t % 2 = p at *
  refine ⟨?_, ⟨by omega⟩⟩
  unfold Fl.isNaN Fl.rung
  rw [decide_eq_true_eq]
  rcases h1 with rfl | rfl <;> omega
theorem run_float_nan {P : Program} (w : World) (op : BinOp) (hop : op = .add ∨ op = .sub ∨ op = .mul ∨ op = .quo) (t : TypeId) (x y : Nat) (h : floatBits op .f64 x y = none) :
    (binOp op t (.float .f64 x) (.float .f64 y)).run P w = .ok (.float .f64 (nanAns w x y)) w.drew := by
  have hq : (Question.nanBits .f64 x y).forced = false := rfl
  unfold floatBits at h
  rcases hop with rfl | rfl | rfl | rfl <;> simp only at h <;> simp [binOp, Op.floatArith, h, run_choose_drew, hq, nanAns]

/-- a sum, canonical -/
def addC (f x : Nat) : Nat := match floatBits .add .f64 f x with | some r => canon r | none => 9221120237041090561
theorem u64_some {op : BinOp} {x y r : Nat} (h : floatBits op .f64 x y = some r) : U64 r := U64.ofFloat (floatBits_wf h)
theorem canon_nan {x : Nat} (h : Fl.isNaN x = true) : canon x = 9221120237041090561 := by unfold canon; rw [h]; rfl
theorem canon_num {x : Nat} (h : Fl.isNaN x = false) : canon x = x := by unfold canon; rw [h]; simp
theorem add_of_nan {f x : Nat} (h : Fl.isNaN f = true) : floatBits .add .f64 f x = none := by
  obtain ⟨t, ht⟩ := Fl.read_nan (of_decide_eq_true h)
  show Ieee.double.add f x = none
  unfold Ieee.Format.add
  rw [ht]; rfl
theorem isNaN_canon' {x : Nat} : Fl.isNaN (canon x) = Fl.isNaN x := by
  unfold canon
  cases h : Fl.isNaN x
  · simp [h]
  · simp; decide
theorem addC_canon (f x : Nat) : addC (canon f) x = addC f x := by
  cases h : Fl.isNaN f
  · rw [canon_num h]
  · unfold addC
    rw [add_of_nan h, add_of_nan (by rw [isNaN_canon', h])]

def sumTo (xs : List Nat) : Nat → Nat
  | 0 => 0
  | k + 1 => addC (sumTo xs k) (xs.getD k 0)

/-- a slice of floats that reads as xs -/
structure Floats (w : World) (A : Option Addr) (len : Nat) (xs : List Nat) : Prop where
  max : len ≤ 9223372036854775807
  length : xs.length = len
  at_ : ∀ k, k < len → ∃ ad, A = some ad ∧ w.cell? (ad.add k) = some (.float .f64 (xs.getD k 0))

/-- how it ends: with the sum, some answers of the tape drawn -/
def SumEnds (s : Nat) (w : World) (e : Ending) (w' : World) : Prop := ∃ n, e = .returned (.float .f64 s) ∧ w' = w.drewN n
def SumRel (xs : List Nat) (k len : Nat) (w : World) (f : Nat) (wr : World) : Prop := k ≤ len ∧ canon f = sumTo xs k ∧ ∃ n, wr = w.drewN n

set_option maxHeartbeats 1000000 in
theorem sum_c (A : Option Addr) (len cap : Nat) (xs : List Nat) (w : World) (h : Floats w A len xs) :
    Calls Try.prog 43 #[.slice A len cap] w (SumEnds (sumTo xs len) w) := by
  have hm := h.max
  go_enter Try.func43, Try.ntmps43
  go_wp2
  go_loopw [3, 8] (fun v i wr => ∃ k f : Nat, i = .int .i64 k ∧ v = .float .f64 f ∧ SumRel xs k len w f wr) (fun _ i _ => len - (intOf i).toNat)
  case atStart => exact ⟨0, 0, rfl, rfl, Nat.zero_le _, canon_num (by decide), 0, rfl⟩
  case round =>
    obtain ⟨k, f, rfl, rfl, hk, hf, n, rfl⟩ := hrel
    have Hf := Lib.hid hf
    clear hf
    by_cases hlt : k < len
    · obtain ⟨ad, rfl, hc⟩ := h.at_ k hlt
      generalize hx : xs.getD k 0 = x at hc
      have Hs : Hid (addC f x = sumTo xs (k + 1)) := by
        show addC f x = addC (sumTo xs k) (xs.getD k 0)
        rw [← Hf.out, addC_canon, hx]
      clear hx
      cases hb : floatBits .add .f64 f x with
      | none =>
        have Ha : Hid (addC f x = 9221120237041090561) := by unfold addC; rw [hb]; rfl
        have hrun := fun (w : World) (t : TypeId) => run_float_nan (P := Try.prog) w .add (.inl rfl) t f x hb
        clear hb
        go_wp2
        go_roundw
        case rel => exact ⟨k + 1, nanAns (w.drewN n) f x, by go_num, rfl, by omega, by rw [← Hs.out, Ha.out]; exact canon_nan (nanAns_isNaN _ _ _).1, n + 1, rfl⟩
        case measure => simp [intOf]; omega
      | some r =>
        have Ha : Hid (addC f x = canon r) := by unfold addC; rw [hb]; rfl
        have hrun := fun (w : World) (t : TypeId) => run_float_arith (P := Try.prog) w .add t .f64 f x r hb
        clear hb
        go_wp2
        go_roundw
        case rel => exact ⟨k + 1, r, by go_num, rfl, by omega, by rw [← Hs.out, Ha.out], n, rfl⟩
        case measure => simp [intOf]; omega
    · have hkk : Hid (k = len) := by unfold RowKit.Hid; omega
      go_wp2_with ((with_reducible refine (canon_c _ _).mono ?_); rintro e w1 ⟨rfl, rfl⟩)
      go_ret
      exact ⟨n, by rw [← hkk.out, ← Hf.out]; rfl, rfl⟩

def LawEnds (w : World) (e : Ending) (w' : World) : Prop := e = .returned (.bool true) ∧ Below w.heap.size w w'
end Go.Proofs.Ytipjelkdbbhcpaa
