
/-
  How many values stand in one, counted up to so many: the laws' own count.
-/
import Derived.Test.YtipjelkdbbhcpaaValA
import Derived.Test.YtipjelkdbbhcpaaFlow
set_option linter.unusedSimpArgs false
set_option linter.unusedVariables false
namespace Go.Proofs.Ytipjelkdbbhcpaa
open Go.RowKit

mutual
def wsz : Val → Nat
  | .mk _ _ _ _ _ l => 1 + wszL l
def wszL : List Val → Nat
  | [] => 0
  | v :: l => wsz v + wszL l
end
theorem wsz_eq (v : Val) : wsz v = 1 + wszL v.l := by cases v; simp [wsz, Val.l]
theorem wsz_pos (v : Val) : 1 ≤ wsz v := by rw [wsz_eq]; omega
theorem wszL_get {l : List Val} : ∀ {i : Nat} {x : Val}, l[i]? = some x → wsz x ≤ wszL l := by
  induction l with
  | nil => intro i x h; simp at h
  | cons v l ih =>
    intro i x h
    rw [wszL]
    cases i with
    | zero => simp at h; subst h; omega
    | succ i => have := ih (i := i) (x := x) (by simpa using h); omega
theorem wsz_part {v x : Val} {i : Nat} (h : v.l[i]? = some x) : wsz x < wsz v := by
  have := wszL_get h
  rw [wsz_eq v]; omega
theorem wszL_append (a b : List Val) : wszL (a ++ b) = wszL a + wszL b := by
  induction a with
  | nil => simp [wszL]
  | cons v a ih => simp [wszL, ih]; omega
theorem wszL_take {l : List Val} {i : Nat} {x : Val} (h : l[i]? = some x) : wszL (l.take (i + 1)) = wszL (l.take i) + wsz x := by
  obtain ⟨hi, rfl⟩ := List.getElem?_eq_some_iff.1 h
  rw [List.take_succ_eq_append_getElem hi, wszL_append]
  simp [wszL]

def WeighEnds (v : Val) (m : Nat) (w : World) (e : Ending) (w' : World) : Prop := ∃ r : Nat, e = .returned (.int .i64 r) ∧ 1 ≤ r ∧ r ≤ m + 1 ∧ (r ≤ m → r = wsz v) ∧ Below w.heap.size w w'
set_option maxRecDepth 8000 in
set_option maxHeartbeats 1000000 in
theorem weigh_c (v : Val) : ∀ (u : Value) (w : World) (m : Nat), Has w u v → m ≤ 10000 → Calls Try.prog 30 #[u, .int .i64 m] w (WeighEnds v m w) := by
  generalize hz : wsz v = z
  induction z using Nat.strongRecOn generalizing v with
  | _ z ih =>
    intro u w m hv hm
    obtain ⟨A, cap, rfl, hk, hn, hf, hs, hlb0, hl, hc, hp⟩ := hv.open
    unfold maxLen at hc
    go_enter Try.func30, Try.ntmps30
    go_wp2
    obtain ⟨w1, hw1⟩ : ∃ w1, w1 = w.alloc (.cells #[.int .i64 v.k, .bool v.b, .int .i64 v.n, .float .f64 v.f, .string (st v.s), .slice A v.l.length cap] 27) := ⟨_, rfl⟩
    have hb1 : Below w.heap.size w w1 := hw1 ▸ (Below.refl _ _).alloc (Nat.le_refl _) _
    have hc5 : w1.cell? ⟨w.heap.size, 5, none⟩ = some (.slice A v.l.length cap) := by rw [hw1]; simp [go_sem]
    have hlt : w.heap.size < w1.heap.size := by rw [hw1]; simp
    rw [← hw1]
    clear hw1
    go_loopw [5, 6] (fun a5 a6 wr => ∃ i r : Nat, a6 = .int .i64 i ∧ a5 = .int .i64 r ∧ i ≤ v.l.length ∧ 1 ≤ r ∧ r ≤ m + 1 ∧ Hid (r ≤ m → r = 1 + wszL (v.l.take i)) ∧ Below w1.heap.size w1 wr) (fun _ a6 _ => v.l.length - (intOf a6).toNat)
    case atStart => exact ⟨0, 1, rfl, rfl, Nat.zero_le _, Nat.le_refl _, by omega, fun _ => by simp [wszL], Below.refl _ _⟩
    case round =>
      obtain ⟨i, r, rfl, rfl, hi, hr1, hrm, hr, hbr⟩ := hrel
      have hc5' := (hbr.cell (p := ⟨w.heap.size, 5, none⟩) hlt).trans hc5
      have hbw := hb1.trans (hbr.mono hb1.size)
      have fin : ∀ e w', (i = v.l.length ∨ m < r) → e = Ending.returned (.int .i64 (r : Int)) → w' = wr → WeighEnds v m w e w' := by
        rintro e w' hx rfl rfl
        refine ⟨r, rfl, hr1, hrm, fun h => ?_, hbw⟩
        have h1 := hr.out h
        rw [show i = v.l.length by omega, List.take_length] at h1
        rw [h1, wsz_eq]
      by_cases hil : i < v.l.length
      · have hil' : (i : Int) < v.l.length := by omega
        by_cases hrl : r ≤ m
        · have hrl' : (r : Int) ≤ m := by omega
          obtain ⟨ad, k, b, n, f, s, B, len, c, rfl, hx, hat⟩ := hp i v.l[i] (by simp)
          have hxr := hx.keep hbw
          obtain ⟨q0, q1, q2, q3, q4, q5, q6⟩ := hat.keep hbw
          have hwsz := wsz_part (v := v) (x := v.l[i]) (i := i) (by simp)
          have hwt := wszL_take (l := v.l) (x := v.l[i]) (i := i) (by simp)
          obtain ⟨q, hq⟩ : ∃ q, q = m - r := ⟨_, rfl⟩
          have cr := ih (wsz v.l[i]) (by omega) v.l[i] rfl _ wr q hxr (by omega)
          have hsub : IntKind.i64.wrap ((m : Int) - r) = (q : Int) := by simp [IntKind.wrap, IntKind.bits, IntKind.signed]; omega
          have hqb : q ≤ m := by omega
          have hQ := Lib.hid hq
          clear hq
          clear hx hxr hp ih fin
          generalize v.l[i] = x at *
          have hfin := hr.out hrl
          have wi : IntKind.i64.wrap ((i : Int) + 1) = (i : Int) + 1 := by simp [IntKind.wrap, IntKind.bits, IntKind.signed]; omega
          have cr' : Calls Try.prog 30 #[valV k b n f s B len c, .int .i64 (q : Int)] wr fun e w' => ∃ r2 : Nat, e = .returned (.int .i64 r2) ∧ IntKind.i64.wrap ((r : Int) + r2) = (r : Int) + r2 ∧ Hid (1 ≤ r2 ∧ r2 ≤ q + 1 ∧ (r2 ≤ q → r2 = wsz x)) ∧ Below wr.heap.size wr w' :=
            cr.mono fun e w' ⟨r2, h1, h2, h3, h4, h5⟩ => ⟨r2, h1, by simp [IntKind.wrap, IntKind.bits, IntKind.signed]; omega, ⟨h2, h3, h4⟩, h5⟩
          clear hfin cr
          go_wp2_with ((with_reducible refine cr'.mono ?_); rintro e w2 ⟨r2, rfl, hw, hg, hb2⟩)
          obtain ⟨g1, g2, g3⟩ := hg.out
          have hQq := hQ.out
          refine ⟨⟨i + 1, r + r2, rfl, by simp, hil, by omega, by omega, fun h => ?_, hbr.trans (hb2.mono hbr.size)⟩, by simp [intOf]; omega⟩
          have h1 := hr.out hrl
          have h2 := g3 (by omega)
          rw [hwt, ← h2]; omega
        · have hrl' : ¬ (r : Int) ≤ m := by omega
          go_wp2_with fail
          go_ret
          exact fin _ _ (.inr (by omega)) rfl rfl
      · have hil' : ¬ (i : Int) < v.l.length := by omega
        go_wp2_with fail
        go_ret
        exact fin _ _ (.inl (by omega)) rfl rfl
end Go.Proofs.Ytipjelkdbbhcpaa
