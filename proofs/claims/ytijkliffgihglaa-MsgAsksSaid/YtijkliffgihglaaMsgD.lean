/-
  The law's walk: MsgAsks.
-/
import Derived.Test.YtijkliffgihglaaMsgC
set_option linter.unusedSimpArgs false
set_option linter.unusedVariables false
namespace Go.Proofs.Ytijkliffgihglaa
open Go.RowKit

def BoolEnds (b : Bool) (w : World) (e : Ending) (w' : World) : Prop := e = .returned (.bool b) ∧ Below w.heap.size w w'
abbrev gv : List UInt8 := [103, 46, 86, 40, 41]
set_option maxHeartbeats 4000000 in
theorem awake_c (w : World) : Calls Try.prog 9 #[] w (BoolEnds true w) := by
  have hg : gv.length = 5 := rfl
  have he : askE 1 0 0 0 0 5 gv.length = 0 := by decide
  have c1 := fun w => put_c 7 1 0 0 0 0 5 gv w (by decide) (by omega) (by omega) (by omega) (by omega)
  rw [he, if_pos rfl] at c1
  have c2 := fun w => get_c (askL 7 1 0 0 0 0 5 gv) w (by decide)
  have hV := get_put (id := 7) (kind := 1) (sess := 0) (rules := 0) (fuel := 0) (room := 0) (batch := 5) (body := gv) (by omega) (by omega) (by omega) (by omega) he
  unfold GetEnds at c2
  rw [hV] at c2
  clear hV
  generalize askL 7 1 0 0 0 0 5 gv = s at *
  clear he
  go_enter Try.func9, Try.ntmps9
  go_wp2_with (first | ((with_reducible refine (c1 _).mono ?_); rintro e w1 ⟨rfl, hb⟩; (first | ((with_reducible obtain ⟨p, hw''⟩ := In.of2 p hb); subst hw'') | (obtain ⟨p, hw''⟩ := In.of hb; subst hw''))) | ((with_reducible refine (c2 _).mono ?_); rintro e w1 ⟨rfl, hb⟩; (first | ((with_reducible obtain ⟨p, hw''⟩ := In.of2 p hb); subst hw'') | (obtain ⟨p, hw''⟩ := In.of hb; subst hw''))))
  go_ret
  exact ⟨rfl, p.back1.alloc p.back1.size _⟩

/-- the law, for a request whose body is not cut -/
structure AskOk (id kind sess rules fuel room batch : Int) : Prop where
  id : 0 ≤ id ∧ id ≤ 18446744073709551615
  kind : -9223372036854775808 ≤ kind ∧ kind ≤ 9223372036854775807
  sess : -9223372036854775808 ≤ sess ∧ sess ≤ 9223372036854775807
  rules : -9223372036854775808 ≤ rules ∧ rules ≤ 9223372036854775807
  fuel : -9223372036854775808 ≤ fuel ∧ fuel ≤ 9223372036854775807
  room : -9223372036854775808 ≤ room ∧ room ≤ 9223372036854775807
  batch : -9223372036854775808 ≤ batch ∧ batch ≤ 9223372036854775807

theorem askL_ne {id kind sess rules fuel room batch : Int} {body : List UInt8} : askL id kind sess rules fuel room batch body ≠ [] := by simp [askL, eightL]
set_option maxHeartbeats 8000000 in
theorem law_asks (id kind sess rules fuel room batch : Int) (body : List UInt8) (w : World) (h : AskOk id kind sess rules fuel room batch) (hl : body.length ≤ maxLen) :
    Calls Try.prog 3 #[askV id kind sess rules fuel room batch body] w (BoolEnds true w) := by
  unfold maxLen at hl
  by_cases hb : body.length ≤ 20010
  · have hb' : ¬ 20010 < (body.length : Int) := by omega
    have c1 := fun w => rcheck_c id kind sess rules fuel room batch body w (by unfold maxLen; omega)
    have c2 := fun w => put_c id kind sess rules fuel room batch body w (by unfold maxLen; omega) h.id h.sess.2 h.fuel.2 h.room.2
    have c4 := fun w => check_c id kind sess rules fuel room batch body w (by unfold maxLen; omega)
    by_cases h0 : askE kind sess rules fuel room batch body.length = 0
    · have H : (1 ≤ kind ∧ kind ≤ 7 ∧ 0 ≤ rules ∧ rules ≤ 255 ∧ 0 ≤ sess ∧ 0 ≤ fuel ∧ 0 ≤ room ∧ 1 ≤ batch ∧ batch ≤ 200 ∧ body.length ≤ 20000) := by
        have h := h0
        unfold askE at h; split at h
        · omega
        · split at h <;> omega
      obtain ⟨k1, k2, r1, r2, s1, f1, m1, b1, b2, l1⟩ := H
      have c5 := fun w => get_c (askL id kind sess rules fuel room batch body) w (by unfold maxLen; simp [askL, eightL, twoL]; omega)
      have hV := get_put (body := body) h.id h.sess.2 h.fuel.2 h.room.2 h0
      unfold GetEnds at c5
      rw [hV] at c5
      have c6 := fun w => rput_c id kind sess rules fuel room batch body w l1 h.id ⟨s1, h.sess.2⟩ ⟨f1, h.fuel.2⟩ ⟨m1, h.room.2⟩ ⟨by omega, h.batch.2⟩ ⟨by omega, by omega⟩ ⟨r1, by omega⟩
      rw [h0, if_pos rfl] at c2
      rw [h0] at c1 c4
      clear hV h0
      generalize askL id kind sess rules fuel room batch body = s at *
      go_enter Try.func3, Try.ntmps3
      go_wp2_with (first | ((with_reducible refine (c1 _).mono ?_); rintro e w1 ⟨rfl, hb⟩; (first | ((with_reducible obtain ⟨p, hw''⟩ := In.of2 p hb); subst hw'') | (obtain ⟨p, hw''⟩ := In.of hb; subst hw''))) | ((with_reducible refine (c2 _).mono ?_); rintro e w1 ⟨rfl, hb⟩; (first | ((with_reducible obtain ⟨p, hw''⟩ := In.of2 p hb); subst hw'') | (obtain ⟨p, hw''⟩ := In.of hb; subst hw''))) | ((with_reducible refine (awake_c _).mono ?_); rintro e w1 ⟨rfl, hb⟩; (first | ((with_reducible obtain ⟨p, hw''⟩ := In.of2 p hb); subst hw'') | (obtain ⟨p, hw''⟩ := In.of hb; subst hw''))) | ((with_reducible refine (c4 _).mono ?_); rintro e w1 ⟨rfl, hb⟩; (first | ((with_reducible obtain ⟨p, hw''⟩ := In.of2 p hb); subst hw'') | (obtain ⟨p, hw''⟩ := In.of hb; subst hw''))) | ((with_reducible refine (c5 _).mono ?_); rintro e w1 ⟨rfl, hb⟩; (first | ((with_reducible obtain ⟨p, hw''⟩ := In.of2 p hb); subst hw'') | (obtain ⟨p, hw''⟩ := In.of hb; subst hw''))) | ((with_reducible refine (c6 _).mono ?_); rintro e w1 ⟨rfl, hb⟩; (first | ((with_reducible obtain ⟨p, hw''⟩ := In.of2 p hb); subst hw'') | (obtain ⟨p, hw''⟩ := In.of hb; subst hw''))))
      go_ret
      exact ⟨rfl, In.back2 _ p⟩
    · rw [if_neg h0] at c2
      generalize askE kind sess rules fuel room batch body.length = E at *
      go_enter Try.func3, Try.ntmps3
      go_wp2_with (first | ((with_reducible refine (c1 _).mono ?_); rintro e w1 ⟨rfl, hb⟩; (first | ((with_reducible obtain ⟨p, hw''⟩ := In.of2 p hb); subst hw'') | (obtain ⟨p, hw''⟩ := In.of hb; subst hw''))) | ((with_reducible refine (c2 _).mono ?_); rintro e w1 ⟨rfl, hb⟩; (first | ((with_reducible obtain ⟨p, hw''⟩ := In.of2 p hb); subst hw'') | (obtain ⟨p, hw''⟩ := In.of hb; subst hw''))) | ((with_reducible refine (awake_c _).mono ?_); rintro e w1 ⟨rfl, hb⟩; (first | ((with_reducible obtain ⟨p, hw''⟩ := In.of2 p hb); subst hw'') | (obtain ⟨p, hw''⟩ := In.of hb; subst hw''))) | ((with_reducible refine (c4 _).mono ?_); rintro e w1 ⟨rfl, hb⟩; (first | ((with_reducible obtain ⟨p, hw''⟩ := In.of2 p hb); subst hw'') | (obtain ⟨p, hw''⟩ := In.of hb; subst hw''))))
      go_ret
      exact ⟨rfl, p.back1⟩
  · have hb' : 20010 < (body.length : Int) := by omega
    have hb2 : 20010 ≤ (body.length : Int) := by omega
    have hc : (body.take 20010).length = 20010 := by simp; omega
    have c1 := fun w => rcheck_c id kind sess rules fuel room batch (body.take 20010) w (by unfold maxLen; omega)
    have c2 := fun w => put_c id kind sess rules fuel room batch (body.take 20010) w (by unfold maxLen; omega) h.id h.sess.2 h.fuel.2 h.room.2
    have c4 := fun w => check_c id kind sess rules fuel room batch (body.take 20010) w (by unfold maxLen; omega)
    have h0 : askE kind sess rules fuel room batch (body.take 20010).length ≠ 0 := by
      rw [hc]; unfold askE; split
      · omega
      · split <;> omega
    rw [if_neg h0] at c2
    generalize askE kind sess rules fuel room batch (body.take 20010).length = E at *
    go_enter Try.func3, Try.ntmps3
    go_wp2_with (first | ((with_reducible refine (c1 _).mono ?_); rintro e w1 ⟨rfl, hb⟩; (first | ((with_reducible obtain ⟨p, hw''⟩ := In.of2 p hb); subst hw'') | (obtain ⟨p, hw''⟩ := In.of hb; subst hw''))) | ((with_reducible refine (c2 _).mono ?_); rintro e w1 ⟨rfl, hb⟩; (first | ((with_reducible obtain ⟨p, hw''⟩ := In.of2 p hb); subst hw'') | (obtain ⟨p, hw''⟩ := In.of hb; subst hw''))) | ((with_reducible refine (awake_c _).mono ?_); rintro e w1 ⟨rfl, hb⟩; (first | ((with_reducible obtain ⟨p, hw''⟩ := In.of2 p hb); subst hw'') | (obtain ⟨p, hw''⟩ := In.of hb; subst hw''))) | ((with_reducible refine (c4 _).mono ?_); rintro e w1 ⟨rfl, hb⟩; (first | ((with_reducible obtain ⟨p, hw''⟩ := In.of2 p hb); subst hw'') | (obtain ⟨p, hw''⟩ := In.of hb; subst hw''))))
    go_ret
    exact ⟨rfl, p.back1⟩
end Go.Proofs.Ytijkliffgihglaa
