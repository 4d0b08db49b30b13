
/-
  The walks of num.Mix and the reference's Mix; the laws NumParts, NumMixes.
-/
import Derived.Test.YtipjelkdbbhcpaaNumE
import Derived.Test.YtipjelkdbbhcpaaNumD
set_option linter.unusedSimpArgs false
set_option linter.unusedVariables false
namespace Go.Proofs.Ytipjelkdbbhcpaa
open Go.RowKit

/-- how an int64 is ordered to a float -/
def mixF (n : Int) (f : Nat) : Int := if cmpF (part n) f ≠ 0 then cmpF (part n) f else if 0 < over n then 1 else -1
theorem u64_part {n : Int} (h : I64 n) : U64 (part n) := ⟨(Fl.split_all h.lo h.hi).1.lt⟩
def IntEnds (v : Int) (w : World) (e : Ending) (w' : World) : Prop := e = .returned (.int .i64 v) ∧ Below w.heap.size w w'
set_option maxHeartbeats 1000000 in
theorem mix_c (n : Int) (f : Nat) (w : World) (h : I64 n) (hf : U64 f) :
    Calls Try.prog 78 #[.int .i64 n, .float .f64 f] w (IntEnds (mixF n f) w) := by
  have hp := u64_part h
  by_cases c : cmpF (part n) f = 0
  · have cb : (cmpF (part n) f != 0) = false := by rw [c]; rfl
    by_cases o : 0 < over n
    · have H : Hid (mixF n f = 1) := by unfold mixF; rw [if_neg (by simp [c]), if_pos o]; exact rfl
      clear c
      go_enter Try.func78, Try.ntmps78
      go_wp2_with fail
      refine (split_c n _ h).mono ?_
      rintro e w1 ⟨rfl, hb⟩
      go_wp2_with ((with_reducible refine (cmp_c _ _ _ (by assumption) (by assumption)).mono ?_); rintro e w2 ⟨rfl, rfl⟩)
      go_ret
      exact ⟨by rw [H.out]; rfl, hb.alloc hb.size _⟩
    · have H : Hid (mixF n f = -1) := by unfold mixF; rw [if_neg (by simp [c]), if_neg o]; exact rfl
      clear c
      go_enter Try.func78, Try.ntmps78
      go_wp2_with fail
      refine (split_c n _ h).mono ?_
      rintro e w1 ⟨rfl, hb⟩
      go_wp2_with ((with_reducible refine (cmp_c _ _ _ (by assumption) (by assumption)).mono ?_); rintro e w2 ⟨rfl, rfl⟩)
      go_ret
      exact ⟨by rw [H.out]; rfl, hb.alloc hb.size _⟩
  · have cb : (cmpF (part n) f != 0) = true := by simp [c]
    have H : Hid (mixF n f = cmpF (part n) f) := by unfold mixF; rw [if_pos c]; exact rfl
    clear c
    go_enter Try.func78, Try.ntmps78
    go_wp2_with fail
    refine (split_c n _ h).mono ?_
    rintro e w1 ⟨rfl, hb⟩
    go_wp2_with ((with_reducible refine (cmp_c _ _ _ (by assumption) (by assumption)).mono ?_); rintro e w2 ⟨rfl, rfl⟩)
    go_ret
    exact ⟨by rw [H.out]; rfl, hb.alloc hb.size _⟩
set_option maxHeartbeats 1000000 in
theorem rmix_c (n : Int) (f : Nat) (w : World) (h : I64 n) (hf : U64 f) :
    Calls Try.prog 36 #[.int .i64 n, .float .f64 f] w fun e w' => e = .returned (.int .i64 (mixF n f)) ∧ w = w' := by
  have hp := u64_part h
  by_cases c : cmpF (part n) f = 0
  · have cb : (cmpF (part n) f != 0) = false := by rw [c]; rfl
    by_cases o : 0 < over n
    · have H : Hid (mixF n f = 1) := by unfold mixF; rw [if_neg (by simp [c]), if_pos o]; exact rfl
      clear c
      go_enter Try.func36, Try.ntmps36
      go_wp2_with fail
      refine (rsplit_c n _ h).mono ?_
      rintro e w1 ⟨rfl, rfl⟩
      go_wp2_with ((with_reducible refine (rcmp_c _ _ _ (by assumption) (by assumption)).mono ?_); rintro e w2 ⟨rfl, rfl⟩)
      go_ret
      exact ⟨by rw [H.out]; rfl, rfl⟩
    · have H : Hid (mixF n f = -1) := by unfold mixF; rw [if_neg (by simp [c]), if_neg o]; exact rfl
      clear c
      go_enter Try.func36, Try.ntmps36
      go_wp2_with fail
      refine (rsplit_c n _ h).mono ?_
      rintro e w1 ⟨rfl, rfl⟩
      go_wp2_with ((with_reducible refine (rcmp_c _ _ _ (by assumption) (by assumption)).mono ?_); rintro e w2 ⟨rfl, rfl⟩)
      go_ret
      exact ⟨by rw [H.out]; rfl, rfl⟩
  · have cb : (cmpF (part n) f != 0) = true := by simp [c]
    have H : Hid (mixF n f = cmpF (part n) f) := by unfold mixF; rw [if_pos c]; exact rfl
    clear c
    go_enter Try.func36, Try.ntmps36
    go_wp2_with fail
    refine (rsplit_c n _ h).mono ?_
    rintro e w1 ⟨rfl, rfl⟩
    go_wp2_with ((with_reducible refine (rcmp_c _ _ _ (by assumption) (by assumption)).mono ?_); rintro e w2 ⟨rfl, rfl⟩)
    go_ret
    exact ⟨by rw [H.out]; rfl, rfl⟩

/-! the parts are ordered as the numbers are -/
theorem over_eq {n : Int} (h : I64 n) : over n = n - Fl.tz (part n) ∧ 0 ≤ over n ∧ over n < 1025 := by
  have s := Fl.split_all h.lo h.hi
  unfold over part
  rw [wrap_in (by omega) (by omega)]
  exact ⟨rfl, s.2.2.1, s.2.2.2⟩
theorem part_key {n : Int} (h : I64 n) : Fl.isNaN (part n) = false ∧ Fl.rung (part n) < 9218868437227405312 := by
  have s := (Fl.split_all h.lo h.hi).1
  exact ⟨fin_nan s.fin, s.fin⟩
theorem part_le {a b : Int} (ha : I64 a) (hb : I64 b) (h : a ≤ b) : Fl.sr (part a) ≤ Fl.sr (part b) :=
  (Fl.split_all ha.lo ha.hi).1.mono (Fl.split_all hb.lo hb.hi).1 h
/-- keys of parts: the one of zero is +0's -/
theorem part_keys {a b : Int} (ha : I64 a) (hb : I64 b) : (key (part a) < key (part b) ↔ Fl.sr (part a) < Fl.sr (part b)) ∧ (Fl.sr (part a) = Fl.sr (part b) → part a = part b) := by
  have sa := (Fl.split_all ha.lo ha.hi).1
  have sb := (Fl.split_all hb.lo hb.hi).1
  have ua := u64_part ha
  have ub := u64_part hb
  have ka := key_num ua (part_key ha).1
  have kb := key_num ub (part_key hb).1
  have za := sa.z
  have zb := sb.z
  have ra := rung_num (part_key ha).1
  have rb := rung_num (part_key hb).1
  have e : part a = Fl.splitW a := rfl
  have e' : part b = Fl.splitW b := rfl
  rw [← e] at za
  rw [← e'] at zb
  refine ⟨?_, fun hh => Fl.sr_inj ua.lt ub.lt hh (fun h0 => by rw [za h0, zb (by omega)])⟩
  rw [ka, kb]
  have na : Fl.neg (part a) = true → Fl.rung (part a) ≠ 0 := by
    intro hn h0
    have : part a = 0 := za (by unfold Fl.sr; rw [hn, h0]; rfl)
    rw [this] at hn
    revert hn; decide
  have nb : Fl.neg (part b) = true → Fl.rung (part b) ≠ 0 := by
    intro hn h0
    have : part b = 0 := zb (by unfold Fl.sr; rw [hn, h0]; rfl)
    rw [this] at hn
    revert hn; decide
  unfold Fl.sr
  cases h1 : Fl.neg (part a) <;> cases h2 : Fl.neg (part b) <;> simp only [h1, h2, Bool.false_eq_true, if_true, if_false, true_implies, false_implies] at na nb ⊢ <;> omega
theorem part_lt {a b : Int} (ha : I64 a) (hb : I64 b) : (a < b) ↔ (cmpF (part a) (part b) < 0 ∨ cmpF (part a) (part b) = 0 ∧ over a < over b) := by
  obtain ⟨k1, k2⟩ := part_keys ha hb
  obtain ⟨k3, k4⟩ := part_keys hb ha
  have oa := over_eq ha
  have ob := over_eq hb
  rcases Int.lt_trichotomy (Fl.sr (part a)) (Fl.sr (part b)) with q | q | q
  · have c : cmpF (part a) (part b) = -1 := by unfold cmpF; rw [if_pos (k1.2 q)]
    rw [c]
    have : a < b := by
      rcases Int.lt_or_le a b with h | h
      · exact h
      · have := part_le hb ha h; omega
    omega
  · have c : cmpF (part a) (part b) = 0 := by unfold cmpF; rw [if_neg (by rw [k1]; omega), if_neg (by rw [k3]; omega)]
    have e := k2 q
    rw [c]
    rw [e] at oa
    omega
  · have c : cmpF (part a) (part b) = 1 := by unfold cmpF; rw [if_neg (by rw [k1]; omega), if_pos (k3.2 q)]
    rw [c]
    have : ¬ a < b := by
      intro h
      have := part_le ha hb (by omega); omega
    omega
theorem part_eq {a b : Int} (ha : I64 a) (hb : I64 b) : (a = b) ↔ (cmpF (part a) (part b) = 0 ∧ over a = over b) := by
  have h1 := part_lt ha hb
  have h2 := part_lt hb ha
  have t : cmpF (part b) (part a) = -cmpF (part a) (part b) := by
    unfold cmpF
    by_cases q : key (part a) < key (part b)
    · rw [if_pos q, if_neg (by omega), if_pos q]; rfl
    · by_cases q2 : key (part b) < key (part a)
      · rw [if_pos q2, if_neg q, if_pos q2]
      · rw [if_neg q2, if_neg q, if_neg q, if_neg q2]; rfl
  constructor
  · rintro rfl; exact ⟨by unfold cmpF; simp, rfl⟩
  · rintro ⟨c, o⟩
    rw [t] at h2
    omega

theorem mix_ne (n : Int) (f : Nat) : (mixF n f == 0) = false := by
  unfold mixF
  split
  · simp; assumption
  · split <;> rfl
theorem mix_between {n m : Int} {f : Nat} (hn : I64 n) (hm : I64 m) (h1 : mixF n f < 0) (h2 : 0 < mixF m f) : n < m := by
  rw [part_lt hn hm]
  have on := over_eq hn
  have om := over_eq hm
  unfold mixF at h1 h2
  have c1 : key (part n) < key f ∨ key (part n) = key f ∧ ¬ 0 < over n := by
    by_cases q : cmpF (part n) f = 0
    · rw [if_neg (by simp [q])] at h1
      have : key (part n) = key f := by
        unfold cmpF at q
        split at q
        · omega
        · split at q <;> omega
      right; refine ⟨this, ?_⟩
      intro hh; rw [if_pos hh] at h1; omega
    · rw [if_pos q] at h1
      unfold cmpF at h1
      split at h1
      · left; assumption
      · split at h1 <;> omega
  have c2 : key f < key (part m) ∨ key (part m) = key f ∧ 0 < over m := by
    by_cases q : cmpF (part m) f = 0
    · rw [if_neg (by simp [q])] at h2
      have : key (part m) = key f := by
        unfold cmpF at q
        split at q
        · omega
        · split at q <;> omega
      right; refine ⟨this, ?_⟩
      rcases (show 0 < over m ∨ ¬ 0 < over m by omega) with hh | hh
      · exact hh
      · rw [if_neg hh] at h2; omega
    · rw [if_pos q] at h2
      unfold cmpF at h2
      split at h2
      · omega
      · split at h2
        · left; assumption
        · omega
  unfold cmpF
  by_cases q : key (part n) < key (part m)
  · rw [if_pos q]; omega
  · rw [if_neg q, if_neg (by omega)]; right; omega
end Go.Proofs.Ytipjelkdbbhcpaa
