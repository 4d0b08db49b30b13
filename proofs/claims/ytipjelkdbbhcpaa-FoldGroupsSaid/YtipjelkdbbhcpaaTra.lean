
/-
  The plain order of values goes on: of three that rise the first is not above the third.
-/
import Derived.Test.YtipjelkdbbhcpaaValP
import Derived.Test.YtipjelkdbbhcpaaValB
set_option linter.unusedSimpArgs false
set_option linter.unusedVariables false
namespace Go.Proofs.Ytipjelkdbbhcpaa
open Go.RowKit

theorem sgnI_le (x y : Int) : sgnI x y ≤ 0 ↔ x ≤ y := by unfold sgnI; split <;> (try split) <;> omega
theorem cmpB_trans : ∀ a b c : List UInt8, Go.Lib.compareBytes a b ≤ 0 → Go.Lib.compareBytes b c ≤ 0 → Go.Lib.compareBytes a c ≤ 0
  | [], _, [], _, _ => by simp [Go.Lib.compareBytes]
  | [], _, _ :: _, _, _ => by simp [Go.Lib.compareBytes]
  | x :: a, [], _, h, _ => by simp [Go.Lib.compareBytes] at h
  | x :: a, y :: b, [], _, h => by simp [Go.Lib.compareBytes] at h
  | x :: a, y :: b, z :: c, h1, h2 => by
    have ih := cmpB_trans a b c
    simp only [Go.Lib.compareBytes, UInt8.lt_iff_toNat_lt] at h1 h2 ⊢
    by_cases p : x.toNat < y.toNat
    · by_cases q : y.toNat < z.toNat
      · rw [if_pos (by omega)]; omega
      · rw [if_neg q] at h2
        by_cases q' : z.toNat < y.toNat
        · rw [if_pos q'] at h2; omega
        · rw [if_pos (by omega)]; omega
    · rw [if_neg p] at h1
      by_cases p' : y.toNat < x.toNat
      · rw [if_pos p'] at h1; omega
      · rw [if_neg p'] at h1
        by_cases q : y.toNat < z.toNat
        · rw [if_pos (by omega)]; omega
        · rw [if_neg q] at h2
          by_cases q' : z.toNat < y.toNat
          · rw [if_pos q'] at h2; omega
          · rw [if_neg q'] at h2
            rw [if_neg (by omega), if_neg (by omega)]
            exact ih h1 h2
theorem cmpVL_trans : ∀ la lb lc : List Val, (∀ x ∈ la, ∀ y ∈ lb, ∀ z ∈ lc, (cmpV x y ≤ 0 → cmpV y z ≤ 0 → cmpV x z ≤ 0) ∧ (cmpV z x ≤ 0 → cmpV x y ≤ 0 → cmpV z y ≤ 0) ∧ (cmpV y z ≤ 0 → cmpV z x ≤ 0 → cmpV y x ≤ 0)) →
    cmpVL la lb ≤ 0 → cmpVL lb lc ≤ 0 → cmpVL la lc ≤ 0
  | [], _, [], _, _, _ => by simp [cmpVL]
  | [], _, _ :: _, _, _, _ => by simp [cmpVL]
  | x :: a, [], _, _, h, _ => by simp [cmpVL] at h
  | x :: a, y :: b, [], _, _, h => by simp [cmpVL] at h
  | x :: a, y :: b, z :: c, ht, h1, h2 => by
    have ih := cmpVL_trans a b c (fun x' hx y' hy z' hz => ht x' (List.mem_cons_of_mem _ hx) y' (List.mem_cons_of_mem _ hy) z' (List.mem_cons_of_mem _ hz))
    obtain ⟨t1, t2, t3⟩ := ht x (by simp) y (by simp) z (by simp)
    have a1 := cmpV_anti x y
    have a2 := cmpV_anti y z
    have a3 := cmpV_anti x z
    simp only [cmpVL] at h1 h2 ⊢
    by_cases p : cmpV x y = 0
    · rw [if_neg (by simp [p])] at h1
      by_cases q : cmpV y z = 0
      · rw [if_neg (by simp [q])] at h2
        by_cases r : cmpV x z = 0
        · rw [if_neg (by simp [r])]; exact ih h1 h2
        · rw [if_pos r]; exact t1 (by omega) (by omega)
      · rw [if_pos q] at h2
        have h3 := t1 (by omega) h2
        by_cases r : cmpV x z = 0
        · have := t2 (by omega) (by omega); omega
        · rw [if_pos r]; exact h3
    · rw [if_pos p] at h1
      by_cases q : cmpV y z = 0
      · have h3 := t1 h1 (by omega)
        by_cases r : cmpV x z = 0
        · have := t3 (by omega) (by omega); omega
        · rw [if_pos r]; exact h3
      · rw [if_pos q] at h2
        have h3 := t1 h1 h2
        by_cases r : cmpV x z = 0
        · have := t3 h2 (by omega); omega
        · rw [if_pos r]; exact h3
/-- where a number stands: its float's key, and what is over -/
def nkey (k n : Int) (f : Nat) : Nat := if k = 2 then key (part n) else key f
def nsub (k n : Int) : Int := if k = 2 then (if 0 < over n then over n + 1 else 0) else 1
theorem cmpF_le (x y : Nat) : (cmpF x y < 0 ↔ key x < key y) ∧ (cmpF x y = 0 ↔ key x = key y) ∧ (cmpF x y ≤ 0 ↔ key x ≤ key y) ∧ (0 < cmpF x y ↔ key y < key x) := by
  unfold cmpF
  split <;> (try split) <;> omega
theorem mix_le {n : Int} {f : Nat} (h : I64 n) : mixF n f ≤ 0 ↔ (key (part n) < key f ∨ key (part n) = key f ∧ over n = 0) := by
  obtain ⟨h1, h2, h3, h4⟩ := cmpF_le (part n) f
  have ho := (over_eq h).2.1
  unfold mixF
  split
  · omega
  · split <;> omega
theorem mix_ge {n : Int} {f : Nat} (h : I64 n) : - mixF n f ≤ 0 ↔ (key f < key (part n) ∨ key (part n) = key f ∧ 0 < over n) := by
  obtain ⟨h1, h2, h3, h4⟩ := cmpF_le (part n) f
  have ho := (over_eq h).2.1
  unfold mixF
  split
  · omega
  · split <;> omega
theorem num_le {ka kb : Int} {ba bb : Bool} {na nb : Int} {fa fb : Nat} {sa sb : List UInt8} {la lb : List Val} (ha : ka = 2 ∨ ka = 3) (hb : kb = 2 ∨ kb = 3) (ia : I64 na) (ib : I64 nb) :
    cmpV (.mk ka ba na fa sa la) (.mk kb bb nb fb sb lb) ≤ 0 ↔ (nkey ka na fa < nkey kb nb fb ∨ nkey ka na fa = nkey kb nb fb ∧ nsub ka na ≤ nsub kb nb) := by
  have oa := (over_eq ia).2.1
  have ob := (over_eq ib).2.1
  rcases ha with rfl | rfl <;> rcases hb with rfl | rfl
  · have h1 := part_lt ib ia
    have h2 := cmpF_le (part nb) (part na)
    have e : cmpV (.mk 2 ba na fa sa la) (.mk 2 bb nb fb sb lb) = sgnI na nb := by simp [cmpV, rcls]
    rw [e, sgnI_le]
    simp only [nkey, nsub, if_true]
    have h3 : na ≤ nb ↔ ¬ nb < na := by omega
    rw [h3, h1]
    obtain ⟨g1, g2, g3, g4⟩ := h2
    rw [g1, g2]
    split <;> split <;> omega
  · have e : cmpV (.mk 2 ba na fa sa la) (.mk 3 bb nb fb sb lb) = mixF na fb := by simp [cmpV, rcls]
    rw [e, mix_le ia]
    simp [nkey, nsub]
    split <;> omega
  · have e : cmpV (.mk 3 ba na fa sa la) (.mk 2 bb nb fb sb lb) = - mixF nb fa := by simp [cmpV, rcls]
    rw [e, mix_ge ib]
    simp [nkey, nsub]
    split <;> omega
  · have e : cmpV (.mk 3 ba na fa sa la) (.mk 3 bb nb fb sb lb) = cmpF fa fb := by simp [cmpV, rcls]
    obtain ⟨g1, g2, g3, g4⟩ := cmpF_le fa fb
    rw [e, g3]
    simp [nkey, nsub]
    omega
/-- a value that may lie in memory -/
def Lies (v : Val) : Prop := ∃ (w : World) (u : Value), Has w u v
theorem Lies.n {k : Int} {b : Bool} {n : Int} {f : Nat} {s : List UInt8} {l : List Val} (h : Lies (.mk k b n f s l)) : I64 n := by
  obtain ⟨w, u, h⟩ := h
  obtain ⟨A, cap, _, _, hn, _⟩ := h.open
  exact hn
theorem Lies.part {k : Int} {b : Bool} {n : Int} {f : Nat} {s : List UInt8} {l : List Val} (h : Lies (.mk k b n f s l)) : ∀ x ∈ l, Lies x ∧ wsz x < wsz (.mk k b n f s l) := by
  intro x hx
  obtain ⟨w, u, h⟩ := h
  obtain ⟨A, cap, _, _, hn, _, _, _, _, _, hp⟩ := h.open
  obtain ⟨i, hi⟩ := List.getElem?_of_mem hx
  obtain ⟨ad, k', b', n', f', s', B, len, c, _, hh, _⟩ := hp i x hi
  exact ⟨⟨w, _, hh⟩, wsz_part (v := .mk k b n f s l) (i := i) hi⟩
theorem cls_le {ka kb : Int} {ba bb : Bool} {na nb : Int} {fa fb : Nat} {sa sb : List UInt8} {la lb : List Val} (h : cmpV (.mk ka ba na fa sa la) (.mk kb bb nb fb sb lb) ≤ 0) : rcls ka ≤ rcls kb := by
  unfold cmpV at h
  by_cases e : rcls ka = rcls kb
  · omega
  · rw [if_pos e, sgnI_le] at h; exact h
theorem cls_lt {ka kb : Int} {ba bb : Bool} {na nb : Int} {fa fb : Nat} {sa sb : List UInt8} {la lb : List Val} (h : rcls ka < rcls kb) : cmpV (.mk ka ba na fa sa la) (.mk kb bb nb fb sb lb) ≤ 0 := by
  unfold cmpV
  rw [if_pos (by omega), sgnI_le]
  omega
theorem cmpV_trans : ∀ (z : Nat) (a b c : Val), wsz a + wsz b + wsz c ≤ z → Lies a → Lies b → Lies c → cmpV a b ≤ 0 → cmpV b c ≤ 0 → cmpV a c ≤ 0 := by
  intro z
  induction z with
  | zero =>
    intro a b c h
    have := wsz_pos a
    omega
  | succ z ih =>
    intro a b c hz ha hb hc h1 h2
    obtain ⟨ka, ba, na, fa, sa, la⟩ := a
    obtain ⟨kb, bb, nb, fb, sb, lb⟩ := b
    obtain ⟨kc, bc, nc, fc, sc, lc⟩ := c
    have r1 := cls_le h1
    have r2 := cls_le h2
    by_cases hr : rcls ka < rcls kc
    · exact cls_lt hr
    have e1 : rcls ka = rcls kb := by omega
    have e2 : rcls kb = rcls kc := by omega
    by_cases hk2 : ka = 2 ∨ ka = 3
    · have hb2 : kb = 2 ∨ kb = 3 := by unfold rcls at e1; split at e1 <;> split at e1 <;> omega
      have hc2 : kc = 2 ∨ kc = 3 := by unfold rcls at e2; split at e2 <;> split at e2 <;> omega
      rw [num_le hk2 hb2 ha.n hb.n] at h1
      rw [num_le hb2 hc2 hb.n hc.n] at h2
      rw [num_le hk2 hc2 ha.n hc.n]
      omega
    · have hkb : kb = ka := by unfold rcls at e1; split at e1 <;> split at e1 <;> omega
      subst hkb
      have hkc : kc = kb := by unfold rcls at e2; split at e2 <;> split at e2 <;> omega
      subst hkc
      unfold cmpV at h1 h2 ⊢
      rw [if_neg (by simp)] at h1 h2 ⊢
      by_cases k1 : kc = 1
      · rw [if_pos k1] at h1 h2 ⊢
        revert h1 h2
        cases ba <;> cases bb <;> cases bc <;> simp
      rw [if_neg k1, if_neg (by omega), if_neg (by omega), if_neg (by omega)] at h1 h2 ⊢
      by_cases k4 : kc = 4
      · rw [if_pos k4] at h1 h2 ⊢
        exact cmpB_trans _ _ _ h1 h2
      rw [if_neg k4] at h1 h2 ⊢
      by_cases k5 : kc = 5 ∨ kc = 6
      · rw [if_pos k5] at h1 h2 ⊢
        refine cmpVL_trans la lb lc (fun x hx y hy z hz' => ?_) h1 h2
        obtain ⟨lx, sx⟩ := ha.part x hx
        obtain ⟨ly, sy⟩ := hb.part y hy
        obtain ⟨lz, sz⟩ := hc.part z hz'
        exact ⟨ih x y z (by omega) lx ly lz, ih z x y (by omega) lz lx ly, ih y z x (by omega) ly lz lx⟩
      rw [if_neg k5, sgnI_le] at h1 h2 ⊢
      omega
theorem cmpV_goes {a b c : Val} (ha : Lies a) (hb : Lies b) (hc : Lies c) (h1 : cmpV a b ≤ 0) (h2 : cmpV b c ≤ 0) : cmpV a c ≤ 0 := cmpV_trans _ a b c (Nat.le_refl _) ha hb hc h1 h2
end Go.Proofs.Ytipjelkdbbhcpaa
