
/-
  Why a value may not be: the reference's size.
-/
import Derived.Test.YtglcnnnjdkjggaaValH
set_option linter.unusedSimpArgs false
set_option linter.unusedVariables false
namespace Go.Proofs.Ytglcnnnjdkjggaa
open Go.RowKit

def SizeEnds (v : Val) (m : Nat) (w : World) (e : Ending) (w' : World) : Prop := ∃ r : Nat, e = .returned (.int .i64 r) ∧ (bsz v ≤ m → r = bsz v) ∧ (m < bsz v → m < r) ∧ r ≤ m + 140737488351300 ∧ Below w.heap.size w w'
set_option maxRecDepth 8000 in
set_option maxHeartbeats 2000000 in
theorem size_c (v : Val) : ∀ (u : Value) (w : World) (m : Nat), Has w u v → m ≤ 60000 → Calls Try.prog 43 #[u, .int .i64 m] w (SizeEnds v m w) := by
  generalize hz : wsz v = z
  induction z using Nat.strongRecOn generalizing v with
  | _ z ih =>
    intro u w m hv hm
    obtain ⟨A, cap, rfl, hk, hn, hf, hs, hlb, hl, hc, hp⟩ := hv.open
    have hpart := fun i x => wsz_part (v := v) (x := x) (i := i)
    rw [hz] at hpart
    unfold maxLen at hc
    obtain ⟨k, b, n, f, s, l⟩ := v
    dsimp only [Val.k, Val.b, Val.n, Val.f, Val.s, Val.l] at *
    clear hv hz
    go_enter Try.func43, Try.ntmps43
    go_upto_region 1 with fail
    obtain ⟨w1, hw1⟩ : ∃ w1, w1 = w.alloc (.cells #[.int .i64 k, .bool b, .int .i64 n, .float .f64 f, .string (st s), .slice A l.length cap] 31) := ⟨_, rfl⟩
    have bk : Below w.heap.size w w1 := hw1 ▸ below_alloc w _
    obtain ⟨x6, x0, x1, x2, x3, x4, x5⟩ : Box w1 w.heap.size k b n f s A l.length cap := hw1 ▸ Box.new w k b n f s A l.length cap _
    rw [← hw1]
    clear hw1
    by_cases h0 : k = 0
    · subst h0
      go_wp2
      go_ret
      exact ⟨1, rfl, fun h => by simp [bsz], fun h => by simp [bsz] at h; omega, by omega, bk⟩
    by_cases h1 : k = 1
    · subst h1
      go_wp2
      go_ret
      exact ⟨2, rfl, fun h => by simp [bsz], fun h => by simp [bsz] at h; omega, by omega, bk⟩
    by_cases h4 : k = 4
    · subst h4
      have hw : IntKind.i64.wrap (3 + (s.length : Int)) = 3 + (s.length : Int) := by rw [wrap_i64]; omega
      go_wp2
      go_ret
      exact ⟨3 + s.length, rfl, fun h => by simp [bsz], fun h => by simp [bsz] at h; omega, by omega, bk⟩
    have e0 : (k == 0) = false := by simpa using h0
    have e1 : (k == 1) = false := by simpa using h1
    have e4 : (k == 4) = false := by simpa using h4
    by_cases h56 : k = 5 ∨ k = 6
    · have hbz : bsz (.mk k b n f s l) = 3 + bszL l := by simp [bsz, h0, h1, h4, h56]
      have hH := Lib.hid h56
      clear h0 h1 h4
      rcases h56 with rfl | rfl <;> go_wp2_with fail
      all_goals
        go_loopw [5, 6] (fun a5 a6 wr => ∃ (i r : Nat), a6 = .int .i64 i ∧ a5 = .int .i64 r ∧ i ≤ l.length ∧ Hid ((3 + bszL (l.take i) ≤ m → r = 3 + bszL (l.take i)) ∧ (m < 3 + bszL (l.take i) → m < r)) ∧ r ≤ m + 140737488351300 ∧ Below w1.heap.size w1 wr) (fun _ a _ => l.length - (intOf a).toNat)
        case atStart => exact ⟨0, 3, rfl, rfl, Nat.zero_le _, ⟨fun _ => by simp [bszL], fun h => by simp [bszL] at h; omega⟩, by omega, Below.refl _ _⟩
        case round =>
          obtain ⟨i, r, rfl, rfl, hi, hr, hrm, hbr⟩ := hrel
          have bkr := bk.trans (hbr.mono bk.size)
          have y5 := (hbr.cell (p := ⟨w.heap.size, 5, none⟩) x6).trans x5
          have y6 := Nat.lt_of_lt_of_le x6 hbr.size
          have hle := bszL_le l i
          by_cases hil : i < l.length
          · have hil' : (i : Int) < l.length := by omega
            by_cases hrl : r ≤ m
            · have hrl' : (r : Int) ≤ m := by omega
              obtain ⟨ad, k', b', n', f', s', B, len, c, rfl, hx, hat⟩ := hp i l[i] (by simp)
              have hxr := hx.keep bkr
              obtain ⟨q6, q0, q1, q2, q3, q4, q5⟩ := hat.keep bkr
              have hsz := hpart i l[i] (by simp)
              have hbt := bszL_take (l := l) (i := i) (x := l[i]) (by simp)
              obtain ⟨q, hq⟩ : ∃ q, q = m - r := ⟨_, rfl⟩
              have hsub : IntKind.i64.wrap ((m : Int) - r) = (q : Int) := by rw [wrap_i64]; omega
              have wi : IntKind.i64.wrap ((i : Int) + 1) = (i : Int) + 1 := by rw [wrap_i64]; omega
              have cr := ih (wsz l[i]) hsz l[i] rfl _ wr q hxr (by omega)
              generalize l[i] = x at *
              have cr' : Calls Try.prog 43 #[valV k' b' n' f' s' B len c, .int .i64 (q : Int)] wr fun e w' => ∃ r2 : Nat, e = .returned (.int .i64 r2) ∧ IntKind.i64.wrap ((r : Int) + r2) = (r : Int) + r2 ∧ Hid ((bsz x ≤ q → r2 = bsz x) ∧ (q < bsz x → q < r2) ∧ r2 ≤ q + 140737488351300) ∧ Below wr.heap.size wr w' :=
                cr.mono fun e w' ⟨r2, g1, g2, g3, g4, g5⟩ => ⟨r2, g1, by rw [wrap_i64]; omega, ⟨g2, g3, g4⟩, g5⟩
              have hQ := Lib.hid hq
              clear hq hx hat hxr ih hp hpart cr
              go_wp2_with ((with_reducible refine cr'.mono ?_); rintro e w2 ⟨r2, rfl, hw, hg, hb2⟩)
              obtain ⟨g1, g2, g3⟩ := hg.out
              have hQq := hQ.out
              have hr0 := hr.out
              refine ⟨⟨i + 1, r + r2, rfl, by simp, hil, ⟨fun h => ?_, fun h => ?_⟩, by omega, hbr.trans (hb2.mono hbr.size)⟩, by simp [intOf]; omega⟩
              · have := hr0.1 (by omega)
                have := g1 (by omega)
                omega
              · by_cases h2 : 3 + bszL (l.take i) ≤ m
                · have := hr0.1 h2
                  have := g2 (by omega)
                  omega
                · have := hr0.2 (by omega)
                  omega
            · have hrl' : ¬ (r : Int) ≤ m := by omega
              have hr0 := hr.out
              have hF := Lib.hid (show m < 3 + bszL l by
                by_cases h2 : 3 + bszL (l.take i) ≤ m
                · have := hr0.1 h2; omega
                · omega)
              clear hr0 hle ih hp hpart
              go_wp2_with fail
              go_ret
              exact ⟨r, rfl, fun h => by have := hF.out; rw [hbz] at h; omega, fun h => by omega, hrm, bkr⟩
          · have hil' : ¬ (i : Int) < l.length := by omega
            have e : l.take i = l := List.take_of_length_le (by omega)
            have hf := hr.out
            rw [e] at hf
            have hf' := Lib.hid hf
            clear ih hp hpart hr hf e hle
            go_wp2_with fail
            go_ret
            exact ⟨r, rfl, fun h => by have := hf'.out.1; rw [hbz] at h ⊢; exact this h, fun h => by have := hf'.out.2; rw [hbz] at h; exact this h, hrm, bkr⟩
    · have e5 : (k == 5) = false := by simp; omega
      have e6 : (k == 6) = false := by simp; omega
      have hbz : bsz (.mk k b n f s l) = 9 := by simp [bsz, h0, h1, h4, h56]
      clear h0 h1 h4 h56
      go_wp2
      go_ret
      exact ⟨9, rfl, fun h => by rw [hbz], fun h => by rw [hbz] at h; omega, by omega, bk⟩

end Go.Proofs.Ytglcnnnjdkjggaa
