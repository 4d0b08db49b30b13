
/-
  The walks of num.Split, the reference's Split, math's Nextafter.
-/
import Derived.Test.YtipjelkdbbhcpaaNumC
import Derived.Test.YtipjelkdbbhcpaaFlPart
import Derived.Deep.LoopGhost
import Derived.Handy
set_option linter.unusedSimpArgs false
set_option linter.unusedVariables false
set_option exponentiation.threshold 3000
namespace Go.Proofs.Ytipjelkdbbhcpaa
open Go.RowKit

set_option maxHeartbeats 400000 in
theorem isNaN_c (x : Nat) (w : World) :
    Calls Try.prog 95 #[.float .f64 x] w fun e w' => e = .returned (.bool (Fl.isNaN x)) ∧ w = w' := by
  have h := feq_self x
  have H : Hid ((!feq x x) = Fl.isNaN x) := by rw [h]; simp [RowKit.Hid]
  clear h
  go_enter Try.func95, Try.ntmps95
  go_wp2
  go_ret
  exact ⟨ret_bool H.out, rfl⟩
set_option maxHeartbeats 400000 in
theorem inf_c (w : World) :
    Calls Try.prog 94 #[.int .i64 (-1)] w fun e w' => e = .returned (.float .f64 18442240474082181120) ∧ w = w' := by
  go_enter Try.func94, Try.ntmps94
  go_wp2
  go_ret
  exact ⟨rfl, rfl⟩

theorem fin_nan {x : Nat} (h : Fl.rung x < 9218868437227405312) : Fl.isNaN x = false := decide_eq_false (by omega)
theorem inf_nan : Fl.isNaN 18442240474082181120 = false := by decide
theorem inf_sr : Fl.sr 18442240474082181120 = -9218868437227405312 := by decide
theorem sr_fin {x : Nat} (h : Fl.rung x < 9218868437227405312) : -9218868437227405312 < Fl.sr x ∧ Fl.sr x < 9218868437227405312 := by unfold Fl.sr; split <;> omega
theorem next_neg (x : Nat) (hx : U64 x) (h : Fl.rung x < 9218868437227405312) (hn : Fl.neg x = true) : (IntKind.u64.wrap (fb x + 1)).toNat = Fl.down x := by
  have := Fl.word_parts hx.lt
  unfold Fl.down
  rw [hn] at this ⊢
  simp only [if_true] at this ⊢
  rw [wrap_u64]
  unfold fb
  omega
theorem next_pos (x : Nat) (hx : U64 x) (h0 : Fl.rung x ≠ 0) (hn : Fl.neg x = false) : (IntKind.u64.wrap (fb x - 1)).toNat = Fl.down x := by
  have := Fl.word_parts hx.lt
  have hl := hx.lt
  unfold Fl.down
  rw [hn] at this ⊢
  simp only [Bool.false_eq_true, if_false] at this ⊢
  rw [wrap_u64]
  unfold fb
  omega
set_option maxHeartbeats 1000000 in
theorem next_c (x : Nat) (w : World) (hx : U64 x) (h : Fl.rung x < 9218868437227405312) (h0 : Fl.rung x ≠ 0) :
    Calls Try.prog 93 #[.float .f64 x, .float .f64 18442240474082181120] w fun e w' => e = .returned (.float .f64 (Fl.down x)) ∧ w = w' := by
  have n1 := fin_nan h
  have n2 := inf_nan
  have hs := sr_fin h
  have e1 : feq x 18442240474082181120 = false := by unfold feq; rw [inf_sr]; simp; intro _; omega
  have e2 : feq x 0 = false := by rw [feq_zero x hx n1]; simp [h0]
  have e3 : flt x 18442240474082181120 = false := by unfold flt; rw [inf_sr]; simp; intro _; omega
  cases hn : Fl.neg x
  · have e4 : flt 0 x = true := by
      have z1 : Fl.isNaN 0 = false := by decide
      have z2 : Fl.sr 0 = 0 := by decide
      unfold flt Fl.num2; rw [z1, n1, z2]; unfold Fl.sr; rw [hn]; simp; omega
    have H := Lib.hid (next_pos x hx h0 hn)
    clear h h0 hs hn
    go_enter Try.func93, Try.ntmps93
    go_wp2_with ((with_reducible refine (isNaN_c _ _).mono ?_); rintro e w1 ⟨rfl, rfl⟩)
    rw [H.out]
    go_ret
    exact ⟨rfl, rfl⟩
  · have e4 : flt 0 x = false := by
      have z2 : Fl.sr 0 = 0 := by decide
      unfold flt; rw [z2]; unfold Fl.sr; rw [hn]; simp
    have H := Lib.hid (next_neg x hx h hn)
    clear h h0 hs hn
    go_enter Try.func93, Try.ntmps93
    go_wp2_with ((with_reducible refine (isNaN_c _ _).mono ?_); rintro e w1 ⟨rfl, rfl⟩)
    rw [H.out]
    go_ret
    exact ⟨rfl, rfl⟩

/-! num.Split -/
@[go_sem] theorem run_store_float {P : Program} (w : World) (a : Addr) (m : Mode) (k : FloatKind) (x : Nat) : (store a (.float k x) m).run P w = stored P w a (.float k x) m := run_store P w a _ m rfl
structure IntF (n : Int) (f : Nat) : Prop where
  u : U64 f
  fin : Fl.rung f < 9218868437227405312
  hi : Fl.sr f ≤ 4890909195324358656
  lo : -4890909195324358656 ≤ Fl.sr f
  z : n ≠ 0 → Fl.rung f ≠ 0
theorem intF (n : Int) (h : I64 n) : IntF n (floatOfInt .f64 n) := by
  have h1 := h.lo
  have h2 := h.hi
  obtain ⟨r, k, e, hk, v1, v2, hkr, hx, hs⟩ := Fl.ofInt n h1 h2
  have hr := Fl.le_top v1 (by omega)
  have hkt : k ≤ 4890909195324358656 := by
    rcases hkr with q | q
    · omega
    · rcases Nat.lt_or_ge r 4890909195324358656 with q2 | q2
      · omega
      · have hv := Fl.V_le q2
        rw [Fl.V_top] at hv
        have hm := Nat.mul_le_mul_right Fl.U (show n.natAbs ≤ 9223372036854775808 by omega)
        have := hx (by omega)
        omega
  rw [e]
  refine ⟨⟨Fl.word_lt _ (by omega)⟩, by rw [Fl.rung_word _ (by omega)]; exact hk, ?_, ?_, ?_⟩
  · rw [Fl.sr_word _ (by omega)]; split <;> omega
  · rw [Fl.sr_word _ (by omega)]; split <;> omega
  · intro hn
    rw [Fl.rung_word _ (by omega)]
    intro hz
    subst hz
    have hr0 : r = 0 := by omega
    subst hr0
    have hU : 1 < Fl.U := by rw [Fl.U_pow 1074 rfl]; exact Nat.lt_of_lt_of_le (by decide : 1 < 2 ^ 1) (Fl.pow_le (by omega))
    have h3 : Fl.V (0 + 1) = 1 := Fl.V_low (by omega)
    rw [h3] at v2
    have := Nat.mul_le_mul_right Fl.U (show 1 ≤ n.natAbs by omega)
    omega

def top : Nat := 4890909195324358656
theorem top_facts : Fl.isNaN 4890909195324358656 = false ∧ Fl.sr 4890909195324358656 = 4890909195324358656 := by decide
def part (n : Int) : Nat := Fl.splitW n
def over (n : Int) : Int := wrap64 (n - Fl.tz (Fl.splitW n))
def tzg (x : Nat) : Int := Fl.tz x
def PartEnds (n : Int) (w : World) (e : Ending) (w' : World) : Prop := e = .returned (.agg #[.float .f64 (part n), .int .i64 (over n)]) ∧ Below w.heap.size w w'
theorem conv_tz {w : World} {x : Nat} (h : Fl.rung x < 9218868437227405312) (h1 : -4890909195324358656 ≤ Fl.sr x) (h2 : Fl.sr x < 4890909195324358656) :
    (convert 25 2 (.float .f64 x)).run Try.prog w = .ok (.int .i64 (tzg x)) w := by
  obtain ⟨b1, b2⟩ := Fl.V_bot_le h1 h2
  exact run_convert_float_int w 25 2 .f64 .i64 x _ (by rw [Try.underlying25]; rfl) Try.underlying2 (Fl.toInt_tz h b1 b2)

theorem split_sr {n : Int} (h : I64 n) : -4890909195324358656 ≤ Fl.sr (Fl.splitW n) ∧ Fl.sr (Fl.splitW n) < 4890909195324358656 := by
  have h1 := h.lo
  have h2 := h.hi
  obtain ⟨f, _⟩ := Fl.split_all h1 h2
  have t1 : Fl.SV (-4890909195324358656) = -(9223372036854775808 * Fl.U : Nat) := by
    rw [show (-4890909195324358656 : Int) = -((4890909195324358656 : Nat) : Int) by omega, Fl.SV_neg, Fl.V_top]
  have t2 : Fl.SV 4890909195324358656 = (9223372036854775808 * Fl.U : Nat) := by
    rw [show (4890909195324358656 : Int) = ((4890909195324358656 : Nat) : Int) by omega, Fl.SV_nat, Fl.V_top]
  have hU := Fl.U_pos
  constructor
  · have a : -((9223372036854775808 * Fl.U : Nat) : Int) ≤ n * Fl.U := by
      have := Int.mul_le_mul_of_nonneg_right h1 (show (0 : Int) ≤ Fl.U by omega)
      rw [Int.natCast_mul]; omega
    have b := f.hi
    rw [← t1] at a
    have := Fl.SV_lt_iff.1 (Int.lt_of_le_of_lt a b)
    omega
  · have a : n * (Fl.U : Int) < ((9223372036854775808 * Fl.U : Nat) : Int) := by
      have := Int.mul_lt_mul_of_pos_right (show n < 9223372036854775808 by omega) (show (0 : Int) < Fl.U by omega)
      rw [Int.natCast_mul]; omega
    have b := f.lo
    rw [← t2] at a
    exact Fl.SV_lt_iff.1 (Int.lt_of_le_of_lt b a)

theorem below_of_split {W W' : World} (h : W' = W) : Below W.heap.size W W' := by subst h; exact Below.refl _ _
set_option maxHeartbeats 1000000 in
theorem split_c (n : Int) (w : World) (h : I64 n) :
    Calls Try.prog 87 #[.int .i64 n] w (PartEnds n w) := by
  have hf := intF n h
  have hsp := split_sr h
  have hs := (Fl.split_all h.lo h.hi).1
  have hdef : Hid (part n = if 4890909195324358656 ≤ Fl.sr (floatOfInt .f64 n) ∨ n < Fl.tz (floatOfInt .f64 n) then Fl.down (floatOfInt .f64 n) else floatOfInt .f64 n) := rfl
  have hconv : ∀ w : World, (convert 25 2 (.float .f64 (part n))).run Try.prog w = .ok (.int .i64 (tzg (part n))) w := fun w => conv_tz hs.fin hsp.1 hsp.2
  obtain ⟨t1, t2⟩ := top_facts
  have nf := fin_nan hf.fin
  have e0 : flt 4890909195324358656 (floatOfInt .f64 n) = false := by unfold flt; rw [t2]; have := hf.hi; simp; intro _; omega
  have hn0 : ∀ m : Int, Fl.rung (floatOfInt .f64 m) = 0 → m = n → n = 0 := fun m hm e => Classical.byContradiction fun hh => hf.z hh (e ▸ hm)
  by_cases c1 : 4890909195324358656 ≤ Fl.sr (floatOfInt .f64 n)
  · have e1 : feq (floatOfInt .f64 n) 4890909195324358656 = true := by unfold feq Fl.num2; rw [nf, t1, t2]; have := hf.hi; simp; omega
    have hp : Hid (Fl.down (floatOfInt .f64 n) = part n) := by rw [hdef.out, if_pos (.inl c1)]; exact rfl
    have hz : Fl.rung (floatOfInt .f64 n) ≠ 0 := by intro hz; unfold Fl.sr at c1; rw [hz] at c1; split at c1 <;> omega
    have hc := fun w => next_c (floatOfInt .f64 n) w hf.u hf.fin hz
    have Hc := Lib.hid hc
    clear hz hc c1 nf t1 t2 hdef hs hsp hf hn0 h
    go_enter Try.func87, Try.ntmps87
    go_wp2_with fail
    refine (inf_c _).mono ?_
    rintro e w1 ⟨rfl, rfl⟩
    go_wp2_with fail
    refine (Hc.out _).mono ?_
    rintro e w1 ⟨rfl, rfl⟩
    rw [hp.out]
    go_wp2_with fail
    exact bodyPost_ret (v := .agg #[.float .f64 (part n), .int .i64 (over n)]) (by simp [results, Try.results87, go_sem]; rfl) rfl ⟨rfl, by go_grown⟩
  · have e1 : feq (floatOfInt .f64 n) 4890909195324358656 = false := by unfold feq; rw [t2]; simp; intro _; omega
    have hcv : ∀ w : World, (convert 25 2 (.float .f64 (floatOfInt .f64 n))).run Try.prog w = .ok (.int .i64 (tzg (floatOfInt .f64 n))) w := fun w => conv_tz hf.fin hf.lo (by omega)
    by_cases c2 : n < tzg (floatOfInt .f64 n)
    · have hp : Hid (Fl.down (floatOfInt .f64 n) = part n) := by rw [hdef.out, if_pos (.inr c2)]; exact rfl
      have hz : Fl.rung (floatOfInt .f64 n) ≠ 0 := by
        intro hz
        have h0 := hn0 n hz rfl
        unfold tzg Fl.tz at c2
        rw [hz, Fl.V_zero] at c2
        simp at c2
        omega
      have hc := fun w => next_c (floatOfInt .f64 n) w hf.u hf.fin hz
      have Hc := Lib.hid hc
      clear hz hc c1 nf t1 t2 hdef hs hsp hf hn0 h
      go_enter Try.func87, Try.ntmps87
      go_wp2_with fail
      refine (inf_c _).mono ?_
      rintro e w1 ⟨rfl, rfl⟩
      go_wp2_with fail
      refine (Hc.out _).mono ?_
      rintro e w1 ⟨rfl, rfl⟩
      rw [hp.out]
      go_wp2_with fail
      exact bodyPost_ret (v := .agg #[.float .f64 (part n), .int .i64 (over n)]) (by simp [results, Try.results87, go_sem]; rfl) rfl ⟨rfl, by go_grown⟩
    · have hp : Hid (floatOfInt .f64 n = part n) := by rw [hdef.out, if_neg (by intro q; rcases q with q | q; exact c1 q; exact c2 q)]; exact rfl
      have ho : Hid (wrap64 (n - tzg (floatOfInt .f64 n)) = over n) := by rw [hp.out]; exact rfl
      clear c1 nf t1 t2 hdef hs hsp hf hn0 h hconv
      go_enter Try.func87, Try.ntmps87
      go_wp2_with fail
      refine bodyPost_ret (v := .agg #[.float .f64 (floatOfInt .f64 n), .int .i64 (wrap64 (n - tzg (floatOfInt .f64 n)))]) (by simp [results, Try.results87, go_sem]) rfl ⟨?_, by go_grown⟩
      rw [ho.out, hp.out]

/-! the reference's Split -/
theorem two_pow_i64 (k : Nat) (h : k ≤ 10) : wrap64 (2 ^ k) = ((2 ^ k : Nat) : Int) := by
  have : 2 ^ k ≤ 2 ^ 10 := Fl.pow_le h
  have e : ((2 ^ k : Nat) : Int) = 2 ^ k := by simp
  rw [← e]
  generalize 2 ^ k = p at this
  unfold wrap64
  omega
theorem wrap_in {x : Int} (h1 : -9223372036854775808 ≤ x) (h2 : x ≤ 9223372036854775807) : wrap64 x = x := by unfold wrap64; omega
theorem ret_pair {x y : Nat} {a b : Int} (h1 : x = y) (h2 : a = b) : Ending.returned (.tuple #[.float .f64 x, .int .i64 a]) = .returned (.tuple #[.float .f64 y, .int .i64 b]) := by rw [h1, h2]
def RPartEnds (n : Int) (w : World) (e : Ending) (w' : World) : Prop := e = .returned (.tuple #[.float .f64 (part n), .int .i64 (over n)]) ∧ w = w'
set_option maxHeartbeats 1000000 in
theorem rsplit_c (n : Int) (w : World) (h : I64 n) :
    Calls Try.prog 63 #[.int .i64 n] w (RPartEnds n w) := by
  go_enter Try.func63, Try.ntmps63
  go_wp2
  go_loop [4, 5] (fun a b => ∃ (m : Int) (k : Nat), a = .int .i64 m ∧ b = .int .i64 k ∧ Fl.LInv n m k) (fun _ b => 10 - (intOf b).toNat)
  case atStart => exact ⟨n, 0, rfl, rfl, Fl.inv_start n⟩
  case round =>
    obtain ⟨m, k, rfl, rfl, hi⟩ := hrel
    have hk := hi.kl
    by_cases c : 9007199254740992 < m ∨ m < -9007199254740992
    · have hst := Fl.inv_step hi h.lo h.hi c
      have Hst := Lib.hid hst
      clear hst
      rcases c with c | c
      · go_wp2
        go_round
        case rel => exact ⟨m / 2, k + 1, rfl, by go_num, Hst.out⟩
        case measure => have := Hst.out.kl; simp [intOf]; omega
      · have c' : ¬ 9007199254740992 < m := by omega
        go_wp2
        go_round
        case rel => exact ⟨m / 2, k + 1, rfl, by go_num, Hst.out⟩
        case measure => have := Hst.out.kl; simp [intOf]; omega
    · obtain ⟨hmul, htz⟩ := Fl.inv_split h.lo h.hi hi (by omega)
      have c1 : ¬ 9007199254740992 < m := by omega
      have c2 : ¬ m < -9007199254740992 := by omega
      have hrun : ∀ (w : World) (t : TypeId), (binOp .mul t (.float .f64 (floatOfInt .f64 m)) (.float .f64 (floatOfInt .f64 (wrap64 (2 ^ k))))).run Try.prog w = .ok (.float .f64 (part n)) w := fun w t => by
        rw [two_pow_i64 k hk]
        exact run_float_arith w .mul t .f64 _ _ _ hmul
      have ho : Hid (wrap64 (n - wrap64 (m * 2 ^ k)) = over n) := by
        unfold over
        have hv := Fl.V_bot_le (split_sr h).1 (split_sr h).2
        rw [← htz, wrap_in hv.1 hv.2]
        exact rfl
      clear c htz hmul
      go_wp2
      go_ret2
      exact ⟨ret_pair rfl ho.out, rfl⟩
end Go.Proofs.Ytipjelkdbbhcpaa
