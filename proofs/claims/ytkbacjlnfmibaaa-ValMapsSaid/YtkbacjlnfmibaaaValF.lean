
/-
  Which values may be: val.bare and rises, the reference's rises.
-/
import Derived.Test.YtkbacjlnfmibaaaValE
import Derived.Deep.DeepCutAuto
import Derived.Deep.CutBlock
set_option linter.unusedSimpArgs false
set_option linter.unusedVariables false
namespace Go.Proofs.Ytkbacjlnfmibaaa
open Go.RowKit

/-- has a value nothing that its kind has not? -/
def shape (k : Int) (b : Bool) (n : Int) (f : Nat) (s : List UInt8) (l : List Val) : Bool :=
  decide (0 ≤ k) && decide (k ≤ 8) && (!b || k == 1) && (n == 0 || k == 2 || k == 7 || k == 8) && (!(k == 7 || k == 8) || decide (1 ≤ n)) && (f == 0 || k == 3) && (s.isEmpty || k == 4) && (l.isEmpty || k == 5 || k == 6)
theorem neg_zero_iff {f : Nat} (h : U64 f) (h1 : feq f 0 = true) (h2 : Fl.neg f = false) : f = 0 := by
  have hl := h.lt
  unfold feq at h1
  rw [Bool.and_eq_true, decide_eq_true_eq] at h1
  have h3 := h1.2
  have h4 : Fl.sr 0 = 0 := by decide
  rw [h4] at h3
  unfold Fl.neg at h2
  unfold Fl.sr Fl.neg Fl.rung at h3
  have h5 : f / 9223372036854775808 % 2 = 0 := by simpa using h2
  have h6 : f < 9223372036854775808 := by omega
  simp [h5] at h3
  omega
theorem feq_num {f : Nat} (h1 : feq f 0 = true) : feq f f = true := by
  unfold feq Fl.num2 at h1
  rw [feq_self]
  simp at h1
  simp [h1.1]
theorem feq_zero0 : feq 0 0 = true := by decide
theorem neg_zero0 : Fl.neg 0 = false := by decide
/-- a float's cases: 0; another one that is -0, or not 0 -/
theorem zero_cases (P : Prop) {f : Nat} (h : U64 f) (h1 : (f == 0) = true → feq f 0 = true → Fl.neg f = false → feq f f = true → P) (h2 : (f == 0) = false → feq f 0 = true → Fl.neg f = true → P) (h3 : (f == 0) = false → feq f 0 = false → P) : P := by
  cases e1 : feq f 0
  · exact h3 (by rw [beq_eq_false_iff_ne]; rintro rfl; rw [feq_zero0] at e1; cases e1) e1
  · cases e2 : Fl.neg f
    · exact h1 (by rw [beq_iff_eq]; exact neg_zero_iff h e1 e2) e1 e2 (feq_num e1)
    · exact h2 (by rw [beq_eq_false_iff_ne]; rintro rfl; rw [neg_zero0] at e2; cases e2) e1 e2
set_option maxRecDepth 8000 in
set_option maxHeartbeats 4000000 in
theorem bare_c (k : Int) (b : Bool) (n : Int) (f : Nat) (s : List UInt8) (l : List Val) (A : Option Addr) (cap : Nat) (w : World) (hk0 : 0 ≤ k) (hk8 : k ≤ 8) (hf : U64 f) :
    Calls Try.prog 64 #[valV k b n f s A l.length cap] w fun e w' => e = .returned (.bool (shape k b n f s l)) ∧ Below w.heap.size w w' := by
  have cs : ∀ w : World, Calls Try.prog 59 #[.float .f64 f] w fun e w' => e = .returned (.bool (Fl.neg f)) ∧ Below w.heap.size w w' := fun w => (signbit_c f w hf).mono fun e w' ⟨h1, h2⟩ => ⟨h1, h2 ▸ Below.refl _ _⟩
  have hsh : shape k b n f s l = (decide (0 ≤ k) && decide (k ≤ 8) && (!b || k == 1) && (n == 0 || k == 2 || k == 7 || k == 8) && (!(k == 7 || k == 8) || decide (1 ≤ n)) && (f == 0 || k == 3) && (s.isEmpty || k == 4) && (l.isEmpty || k == 5 || k == 6)) := rfl
  have hS := Lib.hid hsh
  clear hsh
  go_enter Try.func64, Try.ntmps64
  go_upto_region 1 with fail
  obtain ⟨w1, hw1⟩ : ∃ w1, w1 = w.alloc (.cells #[.int .i64 k, .bool b, .int .i64 n, .float .f64 f, .string (st s), .slice A l.length cap] 25) := ⟨_, rfl⟩
  have bk : Below w.heap.size w w1 := hw1 ▸ below_alloc w _
  obtain ⟨x6, x0, x1, x2, x3, x4, x5⟩ : Box w1 w.heap.size k b n f s A l.length cap := hw1 ▸ Box.new w k b n f s A l.length cap _
  rw [← hw1]
  clear hw1
  go_cut [3, 4, 5, 6] (fun a3 a4 a5 a6 wx => a3 = .bool (n != 0) ∧ a4 = .bool (!(f == 0)) ∧ a5 = .bool (!s.isEmpty) ∧ a6 = .bool (!l.isEmpty) ∧ Below w1.heap.size w1 wx)
  case first =>
    refine zero_cases _ hf (fun e1 e2 e3 e4 => ?_) (fun e1 e2 e3 => ?_) (fun e1 e2 => ?_)
    all_goals
      (refine wp_region_flow [] (by kernel_rfl) (by kernel_rfl) ?_; (repeat (((with_reducible refine wpFlow_steps ?_); intro K hK; go_simp; first | (with_reducible refine hK _ ?_; clear hK K) | (apply Exists.intro; (with_reducible refine ⟨fun _ => ⟨?_, _, rfl⟩, hK _ ?_⟩); (· exact rfl); clear hK K) | (apply Exists.intro; (with_reducible refine ⟨fun _ => ⟨_, rfl⟩, hK _ ?_⟩); clear hK K) | (apply Exists.intro; (with_reducible refine ⟨fun _ => ?_, hK _ ?_⟩); (· (with_reducible (first | exact cs _))); clear hK K)))); (refine wpFlow_nil ?_; rintro w1 ⟨q0, hq0⟩; have hb := In.h q0; rw [← hq0] at hb; clear hq0 q0; (first | ((with_reducible obtain ⟨p, hw''⟩ := In.of2 p hb); subst hw'') | (obtain ⟨p, hw''⟩ := In.of hb; subst hw'')); go_simp; intros))
      go_wp2_with fail
      ((with_reducible show Met _ _ _); refine Met.intro ?_; go_step; (repeat' apply Exists.intro); refine ⟨?_, rfl⟩)
      exact ⟨rfl, by rw [e1]; rfl, by simp, by cases l <;> simp, hb⟩
  case rest =>
    obtain ⟨rfl, rfl, rfl, rfl, hbr⟩ := hcut
    have y0 := (hbr.cell (p := ⟨w.heap.size, 0, none⟩) x6).trans x0
    have y1 := (hbr.cell (p := ⟨w.heap.size, 1, none⟩) x6).trans x1
    have y2 := (hbr.cell (p := ⟨w.heap.size, 2, none⟩) x6).trans x2
    have y6 := Nat.lt_of_lt_of_le x6 hbr.size
    have bkr := bk.trans (hbr.mono bk.size)
    clear x0 x1 x2 x3 x4 x5 x6
    have hk : k = 0 ∨ k = 1 ∨ k = 2 ∨ k = 3 ∨ k = 4 ∨ k = 5 ∨ k = 6 ∨ k = 7 ∨ k = 8 := by omega
    clear hk0 hk8
    have hn : (n == 0) = !(n != 0) := by unfold bne; cases (n == 0) <;> rfl
    have hN := Lib.hid hn
    clear hn
    generalize hnb : (n != 0) = nb at *
    have hnb := Lib.hid hnb
    generalize (f == 0) = fz at *
    generalize s.isEmpty = sb at *
    generalize l.isEmpty = lb at *
    rcases hk with rfl | rfl | rfl | rfl | rfl | rfl | rfl | rfl | rfl
    all_goals
      go_wp2_with fail
      all_goals
        go_ret
        refine ⟨ret_bool ?_, bkr⟩
        have hS := hS.out
        rw [hN.out] at hS
        clear hN cs
        simp_all <;> (intro h_; omega)
end Go.Proofs.Ytkbacjlnfmibaaa
