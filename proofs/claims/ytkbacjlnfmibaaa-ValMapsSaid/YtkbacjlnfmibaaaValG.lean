
/-
  Which values may be: val.rises, the reference's; val.check.
-/
import Derived.Test.YtkbacjlnfmibaaaValF
set_option linter.unusedSimpArgs false
set_option linter.unusedVariables false
namespace Go.Proofs.Ytkbacjlnfmibaaa
open Go.RowKit

/-- do the first so many keys rise? -/
def upToB (l : List Val) : Nat → Bool
  | 0 => true
  | m + 1 => upToB l m && decide (cmpV (l.getD (2 * m) default) (l.getD (2 * m + 2) default) < 0)
/-- do a map's keys rise, each with a value? -/
def risesV (l : List Val) : Bool := upToB l ((l.length - 1) / 2) && l.length % 2 == 0
theorem getD_at {l : List Val} {i : Nat} (h : i < l.length) : l.getD i default = l[i] := by simp [List.getD, h]
theorem upToB_no {l : List Val} {m : Nat} (h : upToB l m = false) : ∀ j, m ≤ j → upToB l j = false := by
  intro j hj
  induction j with
  | zero =>
    have : m = 0 := by omega
    subst this; exact h
  | succ j ih =>
    rcases Nat.lt_or_ge j m with h1 | h1
    · have : m = j + 1 := by omega
      subst this; exact h
    · rw [upToB, ih h1]; rfl
theorem risesV_no {l : List Val} {m : Nat} (h1 : m ≤ (l.length - 1) / 2) (h : upToB l m = false) : risesV l = false := by
  unfold risesV
  rw [upToB_no h _ h1]; rfl
theorem risesV_end {l : List Val} {m : Nat} (h : upToB l m = true) (h1 : m = (l.length - 1) / 2) : risesV l = (l.length % 2 == 0) := by
  unfold risesV
  rw [← h1, h]; rfl
theorem rem2 (n : Nat) : ((n : Int) % 2 == 0) = (n % 2 == 0) := by
  rw [Bool.eq_iff_iff, beq_iff_eq, beq_iff_eq]; omega

set_option maxRecDepth 8000 in
set_option maxHeartbeats 4000000 in
theorem rises_c (l : List Val) (A : Option Addr) (cap : Nat) (w : World) (hp : Parts w A l) (hl : l.length ≤ 140737488351232) :
    Calls Try.prog 65 #[.slice A l.length cap] w fun e w' => e = .returned (.bool (risesV l)) ∧ Below w.heap.size w w' := by
  go_enter Try.func65, Try.ntmps65
  go_wp2_with fail
  go_loopw [3] (fun a3 wr => ∃ (i m : Nat), a3 = .int .i64 i ∧ Hid (i = 2 * m + 2) ∧ i ≤ 140737488351240 ∧ Hid (upToB l m = true) ∧ Hid (m ≤ (l.length - 1) / 2) ∧ Below w.heap.size w wr) (fun a _ => l.length - (intOf a).toNat)
  case atStart => exact ⟨2, 0, rfl, rfl, by omega, rfl, Nat.zero_le _, Below.refl _ _⟩
  case round =>
    obtain ⟨i, m, rfl, him, hib, hup, hml, hbr⟩ := hrel
    by_cases hil : i < l.length
    · have hil' : (i : Int) < l.length := by omega
      obtain ⟨q, hq⟩ : ∃ q, q = 2 * m := ⟨_, rfl⟩
      have hq2 : i = q + 2 := by rw [hq]; exact him.out
      have hql : q < l.length := by omega
      have hql' : (q : Int) < l.length := by omega
      have wq : IntKind.i64.wrap ((i : Int) - 2) = (q : Int) := by rw [wrap_i64]; omega
      have wi : IntKind.i64.wrap ((i : Int) + 2) = (i : Int) + 2 := by rw [wrap_i64]; omega
      obtain ⟨ad, k, b, n, f, s, B, len, c, rfl, hx, hat⟩ := hp q l[q] (by simp)
      obtain ⟨ae, k', b', n', f', s', B', len', c', he, hy, hau⟩ := hp i l[i] (by simp)
      cases he
      obtain ⟨q6, q0, q1, q2, q3, q4, q5⟩ := hat.keep hbr
      obtain ⟨s6, s0, s1, s2, s3, s4, s5⟩ := hau.keep hbr
      have cr : ∀ p : In wr, Calls Try.prog 19 #[valV k b n f s B len c, valV k' b' n' f' s' B' len' c'] p.w fun e w' => e = .returned (.int .i64 (cmpV l[q] l[i])) ∧ Below p.w.heap.size p.w w' := fun p => cmpv_c l[q] l[i] _ _ p.w ((hx.keep hbr).keep p.h) ((hy.keep hbr).keep p.h)
      have hst : upToB l (m + 1) = decide (cmpV l[q] l[i] < 0) := by
        rw [upToB, hup.out, ← hq, ← hq2, getD_at hql, getD_at hil, Bool.true_and]
      have hmle : m + 1 ≤ (l.length - 1) / 2 := by omega
      have hM := Lib.hid (And.intro hq hq2)
      have hst' := Lib.hid hst
      have hmle' := Lib.hid hmle
      have hH := Lib.hid him.out
      clear hst hmle hq hq2 hx hy hat hau hp
      generalize cmpV l[q] l[i] = cv at *
      by_cases hc : 0 ≤ cv
      · have hcd : decide (0 ≤ cv) = true := decide_eq_true hc
        have hF := Lib.hid (risesV_no (l := l) hmle'.out (by rw [hst'.out]; exact decide_eq_false (by omega)))
        go_upto_region 4 with fail
        (refine wp_region_flow [] (by kernel_rfl) (by kernel_rfl) ?_; (repeat (((with_reducible refine wpFlow_steps ?_); intro K hK; go_simp; first | (with_reducible refine hK _ ?_; clear hK K) | (apply Exists.intro; (with_reducible refine ⟨fun _ => ⟨?_, _, rfl⟩, hK _ ?_⟩); (· exact rfl); clear hK K) | (apply Exists.intro; (with_reducible refine ⟨fun _ => ⟨_, rfl⟩, hK _ ?_⟩); clear hK K) | (apply Exists.intro; (with_reducible refine ⟨fun _ => ?_, hK _ ?_⟩); (· (with_reducible (first | exact cr _))); clear hK K)))); (refine wpFlow_nil ?_; rintro w1 ⟨q0, hq0⟩; have hb := In.h q0; rw [← hq0] at hb; clear hq0 q0; (first | ((with_reducible obtain ⟨p, hw''⟩ := In.of2 p hb); subst hw'') | (obtain ⟨p, hw''⟩ := In.of hb; subst hw'')); go_simp; intros))
        go_wp2_with fail
        go_ret
        exact ⟨ret_bool hF.out.symm, p.back hbr⟩
      · have hcd : decide (0 ≤ cv) = false := decide_eq_false hc
        go_upto_region 4 with fail
        (refine wp_region_flow [] (by kernel_rfl) (by kernel_rfl) ?_; (repeat (((with_reducible refine wpFlow_steps ?_); intro K hK; go_simp; first | (with_reducible refine hK _ ?_; clear hK K) | (apply Exists.intro; (with_reducible refine ⟨fun _ => ⟨?_, _, rfl⟩, hK _ ?_⟩); (· exact rfl); clear hK K) | (apply Exists.intro; (with_reducible refine ⟨fun _ => ⟨_, rfl⟩, hK _ ?_⟩); clear hK K) | (apply Exists.intro; (with_reducible refine ⟨fun _ => ?_, hK _ ?_⟩); (· (with_reducible (first | exact cr _))); clear hK K)))); (refine wpFlow_nil ?_; rintro w1 ⟨q0, hq0⟩; have hb := In.h q0; rw [← hq0] at hb; clear hq0 q0; (first | ((with_reducible obtain ⟨p, hw''⟩ := In.of2 p hb); subst hw'') | (obtain ⟨p, hw''⟩ := In.of hb; subst hw'')); go_simp; intros))
        go_wp2_with fail
        refine ⟨⟨i + 2, m + 1, rfl, ?_, by omega, ?_, hmle', hbr.trans (hb.mono hbr.size)⟩, by simp [intOf]; omega⟩
        · show i + 2 = 2 * (m + 1) + 2
          rw [hH.out]; omega
        · show _ = _
          rw [hst'.out]; exact decide_eq_true (by omega)
    · have hil' : ¬ (i : Int) < l.length := by omega
      have hF := Lib.hid (risesV_end (l := l) hup.out (by have := hml.out; have := him.out; omega))
      clear hp
      go_wp2_with fail
      go_ret
      exact ⟨ret_bool ((rem2 l.length).trans hF.out.symm), hbr⟩

set_option maxRecDepth 8000 in
set_option maxHeartbeats 4000000 in
theorem rrises_c (l : List Val) (A : Option Addr) (cap : Nat) (w : World) (hp : Parts w A l) (hl : l.length ≤ 140737488351232) :
    Calls Try.prog 60 #[.slice A l.length cap] w fun e w' => e = .returned (.bool (risesV l)) ∧ Below w.heap.size w w' := by
  go_enter Try.func60, Try.ntmps60
  go_wp2_with fail
  go_loopw [3] (fun a3 wr => ∃ (i m : Nat), a3 = .int .i64 i ∧ Hid (i = 2 * m + 2) ∧ i ≤ 140737488351240 ∧ Hid (upToB l m = true) ∧ Hid (m ≤ (l.length - 1) / 2) ∧ Below w.heap.size w wr) (fun a _ => l.length - (intOf a).toNat)
  case atStart => exact ⟨2, 0, rfl, rfl, by omega, rfl, Nat.zero_le _, Below.refl _ _⟩
  case round =>
    obtain ⟨i, m, rfl, him, hib, hup, hml, hbr⟩ := hrel
    by_cases hil : i < l.length
    · have hil' : (i : Int) < l.length := by omega
      obtain ⟨q, hq⟩ : ∃ q, q = 2 * m := ⟨_, rfl⟩
      have hq2 : i = q + 2 := by rw [hq]; exact him.out
      have hql : q < l.length := by omega
      have hql' : (q : Int) < l.length := by omega
      have wq : IntKind.i64.wrap ((i : Int) - 2) = (q : Int) := by rw [wrap_i64]; omega
      have wi : IntKind.i64.wrap ((i : Int) + 2) = (i : Int) + 2 := by rw [wrap_i64]; omega
      obtain ⟨ad, k, b, n, f, s, B, len, c, rfl, hx, hat⟩ := hp q l[q] (by simp)
      obtain ⟨ae, k', b', n', f', s', B', len', c', he, hy, hau⟩ := hp i l[i] (by simp)
      cases he
      obtain ⟨q6, q0, q1, q2, q3, q4, q5⟩ := hat.keep hbr
      obtain ⟨s6, s0, s1, s2, s3, s4, s5⟩ := hau.keep hbr
      have cr : ∀ p : In wr, Calls Try.prog 26 #[valV k b n f s B len c, valV k' b' n' f' s' B' len' c'] p.w fun e w' => e = .returned (.int .i64 (cmpV l[q] l[i])) ∧ Below p.w.heap.size p.w w' := fun p => rcmpv_c l[q] l[i] _ _ p.w ((hx.keep hbr).keep p.h) ((hy.keep hbr).keep p.h)
      have hst : upToB l (m + 1) = decide (cmpV l[q] l[i] < 0) := by
        rw [upToB, hup.out, ← hq, ← hq2, getD_at hql, getD_at hil, Bool.true_and]
      have hmle : m + 1 ≤ (l.length - 1) / 2 := by omega
      have hM := Lib.hid (And.intro hq hq2)
      have hst' := Lib.hid hst
      have hmle' := Lib.hid hmle
      have hH := Lib.hid him.out
      clear hst hmle hq hq2 hx hy hat hau hp
      generalize cmpV l[q] l[i] = cv at *
      by_cases hc : 0 ≤ cv
      · have hcd : decide (0 ≤ cv) = true := decide_eq_true hc
        have hF := Lib.hid (risesV_no (l := l) hmle'.out (by rw [hst'.out]; exact decide_eq_false (by omega)))
        go_upto_region 4 with fail
        (refine wp_region_flow [] (by kernel_rfl) (by kernel_rfl) ?_; (repeat (((with_reducible refine wpFlow_steps ?_); intro K hK; go_simp; first | (with_reducible refine hK _ ?_; clear hK K) | (apply Exists.intro; (with_reducible refine ⟨fun _ => ⟨?_, _, rfl⟩, hK _ ?_⟩); (· exact rfl); clear hK K) | (apply Exists.intro; (with_reducible refine ⟨fun _ => ⟨_, rfl⟩, hK _ ?_⟩); clear hK K) | (apply Exists.intro; (with_reducible refine ⟨fun _ => ?_, hK _ ?_⟩); (· (with_reducible (first | exact cr _))); clear hK K)))); (refine wpFlow_nil ?_; rintro w1 ⟨q0, hq0⟩; have hb := In.h q0; rw [← hq0] at hb; clear hq0 q0; (first | ((with_reducible obtain ⟨p, hw''⟩ := In.of2 p hb); subst hw'') | (obtain ⟨p, hw''⟩ := In.of hb; subst hw'')); go_simp; intros))
        go_wp2_with fail
        go_ret
        exact ⟨ret_bool hF.out.symm, p.back hbr⟩
      · have hcd : decide (0 ≤ cv) = false := decide_eq_false hc
        go_upto_region 4 with fail
        (refine wp_region_flow [] (by kernel_rfl) (by kernel_rfl) ?_; (repeat (((with_reducible refine wpFlow_steps ?_); intro K hK; go_simp; first | (with_reducible refine hK _ ?_; clear hK K) | (apply Exists.intro; (with_reducible refine ⟨fun _ => ⟨?_, _, rfl⟩, hK _ ?_⟩); (· exact rfl); clear hK K) | (apply Exists.intro; (with_reducible refine ⟨fun _ => ⟨_, rfl⟩, hK _ ?_⟩); clear hK K) | (apply Exists.intro; (with_reducible refine ⟨fun _ => ?_, hK _ ?_⟩); (· (with_reducible (first | exact cr _))); clear hK K)))); (refine wpFlow_nil ?_; rintro w1 ⟨q0, hq0⟩; have hb := In.h q0; rw [← hq0] at hb; clear hq0 q0; (first | ((with_reducible obtain ⟨p, hw''⟩ := In.of2 p hb); subst hw'') | (obtain ⟨p, hw''⟩ := In.of hb; subst hw'')); go_simp; intros))
        go_wp2_with fail
        refine ⟨⟨i + 2, m + 1, rfl, ?_, by omega, ?_, hmle', hbr.trans (hb.mono hbr.size)⟩, by simp [intOf]; omega⟩
        · show i + 2 = 2 * (m + 1) + 2
          rw [hH.out]; omega
        · show _ = _
          rw [hst'.out]; exact decide_eq_true (by omega)
    · have hil' : ¬ (i : Int) < l.length := by omega
      have hF := Lib.hid (risesV_end (l := l) hup.out (by have := hml.out; have := him.out; omega))
      clear hp
      go_wp2_with fail
      go_ret
      exact ⟨ret_bool ((rem2 l.length).trans hF.out.symm), hbr⟩

end Go.Proofs.Ytkbacjlnfmibaaa
