/-
  The walks of num.Whole and the reference's Whole, math's Trunc and Floor; the laws NumSplits, NumWhole.
-/
import Derived.Test.YtibgbihleeocpaaNumG
import Derived.Laws.Externs
set_option linter.unusedSimpArgs false
set_option linter.unusedVariables false
namespace Go.Proofs.Ytibgbihleeocpaa
open Go.RowKit

theorem integral_run {P : Program} (name : String) (way : Ieee.Toward) (x : Nat) (h : Fl.rung x < 9218868437227405312) (w : World) :
    (Extern.MathFloor.toIntegral name way #[.float .f64 x]).run P w = .ok (.float .f64 (FloatKind.f64.encode ((FloatKind.f64.decode x).integral way))) w := by
  obtain ⟨m, e, h1, _⟩ := Fl.read_fin h
  have hd : FloatKind.f64.decode x = .number (Fl.neg x) m (-1074 + (e : Int)) := h1
  change Sem.run P (match FloatKind.f64.decode x with
    | .nan _ _ => _
    | d => (pure (Value.float .f64 (FloatKind.f64.encode (d.integral way))) : Sem Value)) w = _
  rw [hd]
  rfl
theorem trunc_run (x : Nat) (h : Fl.rung x < 9218868437227405312) (w : World) : (callFunc 47 #[.float .f64 x]).run Try.prog w = .ok (.value (.float .f64 (Fl.trunc x))) w := by
  rw [run_callFunc_extern (e := Extern.MathFloor.toIntegral "math.archTrunc" .zero) Try.func47 (by kernel_rfl) (by kernel_rfl) (by kernel_rfl) (by kernel_rfl), integral_run _ _ _ h]
  rfl
theorem floor_run (x : Nat) (h : Fl.rung x < 9218868437227405312) (w : World) : (callFunc 49 #[.float .f64 x]).run Try.prog w = .ok (.value (.float .f64 (Fl.floor x))) w := by
  rw [run_callFunc_extern (e := Extern.MathFloor.toIntegral "math.archFloor" .down) Try.func49 (by kernel_rfl) (by kernel_rfl) (by kernel_rfl) (by kernel_rfl), integral_run _ _ _ h]
  rfl
set_option maxHeartbeats 400000 in
theorem trunc_c (x : Nat) (w : World) (h : Fl.rung x < 9218868437227405312) :
    Calls Try.prog 41 #[.float .f64 x] w fun e w' => e = .returned (.float .f64 (Fl.trunc x)) ∧ w = w' := by
  have hr := trunc_run x h
  clear h
  go_enter Try.func41, Try.ntmps41
  go_wp2
  go_ret
  exact ⟨rfl, rfl⟩
set_option maxHeartbeats 400000 in
theorem floor_c (x : Nat) (w : World) (h : Fl.rung x < 9218868437227405312) :
    Calls Try.prog 42 #[.float .f64 x] w fun e w' => e = .returned (.float .f64 (Fl.floor x)) ∧ w = w' := by
  have hr := floor_run x h
  clear h
  go_enter Try.func42, Try.ntmps42
  go_wp2
  go_ret
  exact ⟨rfl, rfl⟩

/-- is a float a whole int64, and which -/
def isW (f : Nat) : Bool := !Fl.isNaN f && decide (-4890909195324358656 ≤ Fl.sr f) && decide (Fl.sr f < 4890909195324358656) && decide (Fl.V (Fl.rung f) % Fl.U = 0)
def wholeN (f : Nat) : Int := if isW f then Fl.tz f else 0
theorem bot_facts : Fl.isNaN 14114281232179134464 = false ∧ Fl.sr 14114281232179134464 = -4890909195324358656 := by decide
theorem ge_bot (f : Nat) : (flt 14114281232179134464 f || feq f 14114281232179134464) = (!Fl.isNaN f && decide (-4890909195324358656 ≤ Fl.sr f)) := by
  unfold flt feq Fl.num2
  rw [bot_facts.1, bot_facts.2]
  cases Fl.isNaN f <;> simp
  rw [Bool.eq_iff_iff]; simp; omega
theorem lt_bot (f : Nat) : flt f 14114281232179134464 = (!Fl.isNaN f && decide (Fl.sr f < -4890909195324358656)) := by
  unfold flt Fl.num2
  rw [bot_facts.1, bot_facts.2]
  cases Fl.isNaN f <;> simp
theorem lt_top' (f : Nat) : flt f 4890909195324358656 = (!Fl.isNaN f && decide (Fl.sr f < 4890909195324358656)) := by
  unfold flt Fl.num2
  rw [top_facts.1, top_facts.2]
  cases Fl.isNaN f <;> simp
theorem ge_top (f : Nat) : (flt 4890909195324358656 f || feq f 4890909195324358656) = (!Fl.isNaN f && decide (4890909195324358656 ≤ Fl.sr f)) := by
  unfold flt feq Fl.num2
  rw [top_facts.1, top_facts.2]
  cases Fl.isNaN f <;> simp
  rw [Bool.eq_iff_iff]; simp; omega
/-- the four ways of a float -/
theorem whole_cases (P : Prop) (f : Nat) (hf : U64 f)
    (h1 : feq f f = false → flt 14114281232179134464 f = false → feq f 14114281232179134464 = false → isW f = false → P)
    (h2 : feq f f = true → flt 14114281232179134464 f = false → feq f 14114281232179134464 = false → flt f 14114281232179134464 = true → flt 4890909195324358656 f = false → feq f 4890909195324358656 = false → isW f = false → P)
    (h3 : feq f f = true → (flt 14114281232179134464 f || feq f 14114281232179134464) = true → flt f 4890909195324358656 = false → (flt 4890909195324358656 f || feq f 4890909195324358656) = true → isW f = false → P)
    (h4 : feq f f = true → (flt 14114281232179134464 f || feq f 14114281232179134464) = true → flt f 4890909195324358656 = true → flt 4890909195324358656 f = false → feq f 4890909195324358656 = false → flt f 14114281232179134464 = false → Fl.rung f < 9218868437227405312 → Fl.V (Fl.rung f) % Fl.U ≠ 0 → isW f = false → P)
    (h5 : feq f f = true → (flt 14114281232179134464 f || feq f 14114281232179134464) = true → flt f 4890909195324358656 = true → flt 4890909195324358656 f = false → feq f 4890909195324358656 = false → flt f 14114281232179134464 = false → Fl.rung f < 9218868437227405312 → Fl.V (Fl.rung f) % Fl.U = 0 → -4890909195324358656 ≤ Fl.sr f → Fl.sr f < 4890909195324358656 → isW f = true → P) : P := by
  have e1 := ge_bot f
  have e2 := lt_bot f
  have e3 := lt_top' f
  have e4 := ge_top f
  have e5 := feq_self f
  cases hn : Fl.isNaN f
  · rw [hn] at e1 e2 e3 e4 e5
    simp only [Bool.not_false, Bool.true_and] at e1 e2 e3 e4 e5
    by_cases c1 : -4890909195324358656 ≤ Fl.sr f
    · by_cases c2 : Fl.sr f < 4890909195324358656
      · rw [decide_eq_true c1] at e1
        rw [decide_eq_false (by omega)] at e2
        rw [decide_eq_true c2] at e3
        rw [decide_eq_false (by omega), Bool.or_eq_false_iff] at e4
        have hr : Fl.rung f < 9218868437227405312 := by
          unfold Fl.sr at c1 c2
          cases hs : Fl.neg f <;> simp only [hs, if_true, if_false, Bool.false_eq_true] at c1 c2 <;> omega
        by_cases c3 : Fl.V (Fl.rung f) % Fl.U = 0
        · exact h5 e5 e1 e3 e4.1 e4.2 e2 hr c3 c1 c2 (by unfold isW; rw [hn, decide_eq_true c1, decide_eq_true c2, decide_eq_true c3]; rfl)
        · exact h4 e5 e1 e3 e4.1 e4.2 e2 hr c3 (by unfold isW; rw [decide_eq_false c3]; simp)
      · rw [decide_eq_true c1] at e1
        rw [decide_eq_false c2] at e3
        rw [decide_eq_true (by omega)] at e4
        exact h3 e5 e1 e3 e4 (by unfold isW; rw [decide_eq_false c2]; simp)
    · rw [decide_eq_false c1, Bool.or_eq_false_iff] at e1
      rw [decide_eq_true (by omega)] at e2
      rw [decide_eq_false (by omega), Bool.or_eq_false_iff] at e4
      exact h2 e5 e1.1 e1.2 e2 e4.1 e4.2 (by unfold isW; rw [decide_eq_false c1]; simp)
  · rw [hn] at e1 e5
    simp only [Bool.not_true, Bool.false_and, Bool.or_eq_false_iff] at e1 e5
    exact h1 e5 e1.1 e1.2 (by unfold isW; rw [hn]; rfl)
theorem or_cases {P : Prop} {a b : Bool} (h : (a || b) = true) (h1 : a = true → P) (h2 : a = false → b = true → P) : P := by
  cases a
  · exact h2 rfl (by simpa using h)
  · exact h1 rfl
theorem feq_ne {a b : Nat} (h : Fl.sr a ≠ Fl.sr b) : feq a b = false := by unfold feq; simp [h]
theorem feq_yes {a b : Nat} (ha : Fl.rung a < 9218868437227405312) (hb : Fl.rung b < 9218868437227405312) (h : Fl.sr a = Fl.sr b) : feq a b = true := by
  unfold feq Fl.num2; rw [fin_nan ha, fin_nan hb]; simp [h]
theorem wholeN_no {f : Nat} (h : isW f = false) : wholeN f = 0 := by unfold wholeN; rw [h]; rfl
theorem wholeN_yes {f : Nat} (h : isW f = true) : wholeN f = Fl.tz f := by unfold wholeN; rw [h]; rfl
def WholeEnds (f : Nat) (w : World) (e : Ending) (w' : World) : Prop := e = .returned (.tuple #[.int .i64 (wholeN f), .bool (isW f)]) ∧ w = w'
theorem whole_ends {f : Nat} {w : World} (n : Int) (b : Bool) (h1 : isW f = b) (h2 : wholeN f = n) : WholeEnds f w (.returned (.tuple #[.int .i64 n, .bool b])) w := by
  subst h1 h2; exact ⟨rfl, rfl⟩

set_option maxHeartbeats 1000000 in
theorem whole_num_c (f : Nat) (w : World) (hf : U64 f) :
    Calls Try.prog 32 #[.float .f64 f] w (WholeEnds f w) := by
  refine whole_cases _ f hf (fun e1 e2 e3 e4 => ?_) (fun e1 e2 e3 e4 e5 e6 e7 => ?_) (fun e1 e2 e3 e4 e5 => ?_) (fun e1 e2 e3 e4 e5 e6 e7 e8 e9 => ?_) (fun e1 e2 e3 e4 e5 e6 e7 e8 e9 e10 e11 => ?_)
  · have E := whole_ends (w := w) _ _ e4 (wholeN_no e4)
    clear e1 e4
    go_enter Try.func32, Try.ntmps32
    go_wp2
    go_ret2
    exact E
  · have E := whole_ends (w := w) _ _ e7 (wholeN_no e7)
    clear e1 e4 e5 e6 e7
    go_enter Try.func32, Try.ntmps32
    go_wp2
    go_ret2
    exact E
  · have E := whole_ends (w := w) _ _ e5 (wholeN_no e5)
    clear e1 e4 e5
    refine or_cases e2 (fun q1 => ?_) (fun q1 q2 => ?_) <;> clear e2
    all_goals
      go_enter Try.func32, Try.ntmps32
      go_wp2
      go_ret2
      exact E
  · have E := whole_ends (w := w) _ _ e9 (wholeN_no e9)
    have T := (Fl.trunc_part e7 e8).2
    have T2 : feq f (Fl.trunc f) = false := feq_ne (fun q => T q.symm)
    have C := Lib.hid (fun w => trunc_c f w e7)
    clear e1 e4 e5 e6 e7 e8 e9 T
    refine or_cases e2 (fun q1 => ?_) (fun q1 q2 => ?_) <;> clear e2
    all_goals
      go_enter Try.func32, Try.ntmps32
      go_wp2_with fail
      refine (C.out _).mono ?_
      rintro e w1 ⟨rfl, rfl⟩
      go_wp2
      go_ret2
      exact E
  · have E := whole_ends (w := w) _ _ e11 (wholeN_yes e11)
    have T := Fl.trunc_whole hf.lt e7 e8
    have T2 : feq f (Fl.trunc f) = true := by rw [T]; exact e1
    have C := Lib.hid (fun w => trunc_c f w e7)
    have V := fun w : World => conv_tz (w := w) e7 e9 e10
    clear e1 e4 e5 e6 e7 e8 e9 e10 e11 T
    refine or_cases e2 (fun q1 => ?_) (fun q1 q2 => ?_) <;> clear e2
    all_goals
      go_enter Try.func32, Try.ntmps32
      go_wp2_with fail
      refine (C.out _).mono ?_
      rintro e w1 ⟨rfl, rfl⟩
      go_wp2
      go_ret2
      exact E

set_option maxHeartbeats 1000000 in
theorem rwhole_c (f : Nat) (w : World) (hf : U64 f) :
    Calls Try.prog 33 #[.float .f64 f] w (WholeEnds f w) := by
  refine whole_cases _ f hf (fun e1 e2 e3 e4 => ?_) (fun e1 e2 e3 e4 e5 e6 e7 => ?_) (fun e1 e2 e3 e4 e5 => ?_) (fun e1 e2 e3 e4 e5 e6 e7 e8 e9 => ?_) (fun e1 e2 e3 e4 e5 e6 e7 e8 e9 e10 e11 => ?_)
  · have E := whole_ends (w := w) _ _ e4 (wholeN_no e4)
    clear e2 e3 e4
    go_enter Try.func33, Try.ntmps33
    go_wp2
    go_ret2
    exact E
  · have E := whole_ends (w := w) _ _ e7 (wholeN_no e7)
    clear e2 e3 e7
    go_enter Try.func33, Try.ntmps33
    go_wp2
    go_ret2
    exact E
  · have E := whole_ends (w := w) _ _ e5 (wholeN_no e5)
    clear e2 e3 e5
    refine or_cases e4 (fun q1 => ?_) (fun q1 q2 => ?_) <;> clear e4
    all_goals
      go_enter Try.func33, Try.ntmps33
      go_wp2
      go_ret2
      exact E
  · have E := whole_ends (w := w) _ _ e9 (wholeN_no e9)
    have T := (Fl.floor_part e7 e8).2
    have T2 : feq (Fl.floor f) f = false := feq_ne T
    have C := Lib.hid (fun w => floor_c f w e7)
    clear e2 e3 e7 e8 e9 T
    go_enter Try.func33, Try.ntmps33
    go_wp2_with fail
    refine (C.out _).mono ?_
    rintro e w1 ⟨rfl, rfl⟩
    go_wp2
    go_ret2
    exact E
  · have E := whole_ends (w := w) _ _ e11 (wholeN_yes e11)
    have T := Fl.floor_whole hf.lt e7 e8
    have T2 : feq (Fl.floor f) f = true := by rw [T]; exact e1
    have C := Lib.hid (fun w => floor_c f w e7)
    have V := fun w : World => conv_tz (w := w) e7 e9 e10
    clear e2 e3 e7 e8 e9 e10 e11 T
    go_enter Try.func33, Try.ntmps33
    go_wp2_with fail
    refine (C.out _).mono ?_
    rintro e w1 ⟨rfl, rfl⟩
    go_wp2
    go_ret2
    exact E

/-! the law NumWhole -/
theorem back_float {f : Nat} (hf : U64 f) (h : isW f = true) : feq (floatOfInt .f64 (wholeN f)) f = true := by
  have hw := wholeN_yes h
  unfold isW at h
  simp only [Bool.and_eq_true, Bool.not_eq_true', decide_eq_true_eq] at h
  obtain ⟨⟨⟨h1, h2⟩, h3⟩, h4⟩ := h
  have hr : Fl.rung f < 9218868437227405312 := by
    unfold Fl.sr at h2 h3
    cases hs : Fl.neg f <;> simp only [hs, if_true, if_false, Bool.false_eq_true] at h2 h3 <;> omega
  obtain ⟨b1, b2⟩ := Fl.V_bot_le h2 h3
  obtain ⟨c1, c2⟩ := Fl.ofInt_tz hf.lt hr h4 b1 b2
  rw [hw]
  exact feq_yes c1 hr c2
set_option maxHeartbeats 1000000 in
theorem numWhole_walk (f : Nat) (w : World) (hf : U64 f) :
    Calls Try.prog 12 #[.float .f64 f] w (LawEnds w) := by
  cases hw : isW f
  · go_enter Try.func12, Try.ntmps12
    go_wp2_with (first | ((with_reducible refine (whole_num_c _ _ (by assumption)).mono ?_); rintro e w1 ⟨rfl, rfl⟩) | ((with_reducible refine (rwhole_c _ _ (by assumption)).mono ?_); rintro e w1 ⟨rfl, rfl⟩) | ((with_reducible refine (awake_c _).mono ?_); rintro e w1 ⟨rfl, rfl⟩))
    go_ret
    exact ⟨rfl, Below.refl _ _⟩
  · have hb := back_float hf hw
    go_enter Try.func12, Try.ntmps12
    go_wp2_with (first | ((with_reducible refine (whole_num_c _ _ (by assumption)).mono ?_); rintro e w1 ⟨rfl, rfl⟩) | ((with_reducible refine (rwhole_c _ _ (by assumption)).mono ?_); rintro e w1 ⟨rfl, rfl⟩) | ((with_reducible refine (awake_c _).mono ?_); rintro e w1 ⟨rfl, rfl⟩))
    go_ret
    exact ⟨rfl, Below.refl _ _⟩

/-! the law NumSplits -/
theorem part_isW {n : Int} (h : I64 n) : isW (part n) = true ∧ (wholeN (part n) == wrap64 (n - over n)) = true ∧ decide (0 ≤ over n) = true := by
  have s := Fl.split_all h.lo h.hi
  have r := split_sr h
  have o := over_eq h
  have hw : isW (part n) = true := by
    unfold isW part
    rw [fin_nan s.1.fin, decide_eq_true r.1, decide_eq_true r.2, decide_eq_true s.2.1]; rfl
  refine ⟨hw, ?_, decide_eq_true o.2.1⟩
  rw [wholeN_yes hw, o.1]
  have b := Fl.V_bot_le r.1 r.2
  have e : n - (n - Fl.tz (part n)) = Fl.tz (part n) := by omega
  rw [e, wrap_in (show -9223372036854775808 ≤ Fl.tz (part n) from b.1) b.2]
  simp
@[go_sem] theorem run_equalIn_float {P : Program} (w : World) (d : Nat) (t : TypeId) (a b : Nat) (h : P.underlying t = some (.float .f64)) : (Op.equalIn (d + 1) t (.float .f64 a) (.float .f64 b)).run P w = .ok (feq a b) w := by
  rw [← is_eq, ← fmt64]
  simp [Op.equalIn, run_underlying h]
  rfl
set_option maxHeartbeats 1000000 in
theorem numSplits_walk (n : Int) (w : World) (h : I64 n) :
    Calls Try.prog 11 #[.int .i64 n] w (LawEnds w) := by
  have hu := u64_part h
  obtain ⟨h1, h2, h3⟩ := part_isW h
  have h4 : feq (part n) (part n) = true := by rw [feq_self, (part_key h).1]; rfl
  go_enter Try.func11, Try.ntmps11
  go_wp2_with fail
  refine (split_c _ _ h).mono ?_
  rintro e w1 ⟨rfl, hb1⟩
  go_wp2_with fail
  refine (rsplit_c _ _ h).mono ?_
  rintro e w2 ⟨rfl, rfl⟩
  go_wp2_with (first | ((with_reducible refine (whole_num_c _ _ (by assumption)).mono ?_); rintro e w1 ⟨rfl, rfl⟩) | ((with_reducible refine (awake_c _).mono ?_); rintro e w1 ⟨rfl, rfl⟩))
  go_ret
  exact ⟨rfl, hb1.alloc hb1.size _⟩
end Go.Proofs.Ytibgbihleeocpaa
