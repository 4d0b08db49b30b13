
/-
  How many bytes a value has: val.left and the reference's size.
-/
import Derived.Test.YtkbacjlnfmibaaaValD
set_option linter.unusedSimpArgs false
set_option linter.unusedVariables false
namespace Go.Proofs.Ytkbacjlnfmibaaa
open Go.RowKit

mutual
/-- how many bytes a value has -/
def bsz : Val → Nat
  | .mk k _ _ _ s l => if k = 0 then 1 else if k = 1 then 2 else if k = 4 then 3 + s.length else if k = 5 ∨ k = 6 then 3 + bszL l else 9
def bszL : List Val → Nat
  | [] => 0
  | v :: l => bsz v + bszL l
end
theorem bszL_append (a b : List Val) : bszL (a ++ b) = bszL a + bszL b := by
  induction a with
  | nil => simp [bszL]
  | cons v a ih => simp [bszL, ih]; omega
theorem bszL_take {l : List Val} {i : Nat} {x : Val} (h : l[i]? = some x) : bszL (l.take (i + 1)) = bszL (l.take i) + bsz x := by
  obtain ⟨hi, rfl⟩ := List.getElem?_eq_some_iff.1 h
  rw [List.take_succ_eq_append_getElem hi, bszL_append]
  simp [bszL]
theorem bszL_le (l : List Val) (i : Nat) : bszL (l.take i) ≤ bszL l := by
  have e := bszL_append (l.take i) (l.drop i)
  rw [List.take_append_drop] at e
  omega

def LeftEnds (v : Val) (m : Nat) (w : World) (e : Ending) (w' : World) : Prop := ∃ r : Int, e = .returned (.int .i64 r) ∧ (0 ≤ r → r = m - bsz v) ∧ (r < 0 → m < bsz v) ∧ -140737488351300 ≤ r ∧ r ≤ m ∧ Below w.heap.size w w'
set_option maxRecDepth 8000 in
set_option maxHeartbeats 2000000 in
theorem left_c (v : Val) : ∀ (u : Value) (w : World) (m : Nat), Has w u v → m ≤ 60000 → Calls Try.prog 43 #[u, .int .i64 m] w (LeftEnds v m w) := by
  generalize hz : wsz v = z
  induction z using Nat.strongRecOn generalizing v with
  | _ z ih =>
    intro u w m hv hm
    obtain ⟨A, cap, rfl, hk, hn, hf, hs, hlb, hl, hc, hp⟩ := hv.open
    have hpart := fun i x => wsz_part (v := v) (x := x) (i := i)
    rw [hz] at hpart
    unfold maxLen at hc
    obtain ⟨k, b, n, f, s, l⟩ := v
    dsimp only [Val.k, Val.b, Val.n, Val.f, Val.s, Val.l] at *
    clear hv hz
    go_enter Try.func43, Try.ntmps43
    go_upto_region 1 with fail
    obtain ⟨w1, hw1⟩ : ∃ w1, w1 = w.alloc (.cells #[.int .i64 k, .bool b, .int .i64 n, .float .f64 f, .string (st s), .slice A l.length cap] 25) := ⟨_, rfl⟩
    have bk : Below w.heap.size w w1 := hw1 ▸ below_alloc w _
    obtain ⟨x6, x0, x1, x2, x3, x4, x5⟩ : Box w1 w.heap.size k b n f s A l.length cap := hw1 ▸ Box.new w k b n f s A l.length cap _
    rw [← hw1]
    clear hw1
    by_cases h0 : k = 0
    · subst h0
      have hw : IntKind.i64.wrap ((m : Int) - 1) = (m : Int) - 1 := by rw [wrap_i64]; omega
      go_wp2
      go_ret
      exact ⟨_, rfl, fun h => by simp [bsz], fun h => by simp [bsz]; omega, by omega, by omega, bk⟩
    by_cases h1 : k = 1
    · subst h1
      have hw : IntKind.i64.wrap ((m : Int) - 2) = (m : Int) - 2 := by rw [wrap_i64]; omega
      go_wp2
      go_ret
      exact ⟨_, rfl, fun h => by simp [bsz], fun h => by simp [bsz]; omega, by omega, by omega, bk⟩
    by_cases h4 : k = 4
    · subst h4
      have hw : IntKind.i64.wrap ((m : Int) - 3) = (m : Int) - 3 := by rw [wrap_i64]; omega
      have hw2 : IntKind.i64.wrap ((m : Int) - 3 - s.length) = (m : Int) - 3 - s.length := by rw [wrap_i64]; omega
      go_wp2
      go_ret
      exact ⟨_, rfl, fun h => by simp [bsz]; omega, fun h => by simp [bsz]; omega, by omega, by omega, bk⟩
    have e0 : (k == 0) = false := by simpa using h0
    have e1 : (k == 1) = false := by simpa using h1
    have e4 : (k == 4) = false := by simpa using h4
    by_cases h56 : k = 5 ∨ k = 6
    · have hbz : bsz (.mk k b n f s l) = 3 + bszL l := by simp [bsz, h0, h1, h4, h56]
      have hH := Lib.hid h56
      clear h0 h1 h4
      have hw : IntKind.i64.wrap ((m : Int) - 3) = (m : Int) - 3 := by rw [wrap_i64]; omega
      rcases h56 with rfl | rfl <;> go_wp2_with fail
      all_goals
        go_loopw [1, 33] (fun a1 a33 wr => ∃ (i : Nat) (r : Int), a33 = .int .i64 i ∧ a1 = .int .i64 r ∧ i ≤ l.length ∧ Hid ((0 ≤ r → r = (m : Int) - 3 - bszL (l.take i)) ∧ (r < 0 → (m : Int) - 3 < bszL (l.take i))) ∧ -140737488351300 ≤ r ∧ r ≤ m ∧ Below w1.heap.size w1 wr) (fun _ a _ => l.length - (intOf a).toNat)
        case atStart => exact ⟨0, _, rfl, rfl, Nat.zero_le _, ⟨fun _ => by simp [bszL], fun h => by simp [bszL]; omega⟩, by omega, by omega, Below.refl _ _⟩
        case round =>
          obtain ⟨i, r, rfl, rfl, hi, hr, hrl, hrm, hbr⟩ := hrel
          have bkr := bk.trans (hbr.mono bk.size)
          by_cases hil : i < l.length
          · have hil' : (i : Int) < l.length := by omega
            obtain ⟨ad, k', b', n', f', s', B, len, c, rfl, hx, hat⟩ := hp i l[i] (by simp)
            have hxr := hx.keep bkr
            obtain ⟨q0, q1, q2, q3, q4, q5, q6⟩ := hat.keep bkr
            have hsz := hpart i l[i] (by simp)
            have hbt := bszL_take (l := l) (i := i) (x := l[i]) (by simp)
            have hle := bszL_le l i
            by_cases hr0 : r < 0
            · clear hx hat hxr ih hp hpart
              go_wp2_with fail
              go_ret
              have h1 := hr.out.2 hr0
              exact ⟨_, rfl, fun h => by omega, fun h => by rw [hbz]; omega, by omega, by omega, bkr.trans ((below_alloc _ _).mono bkr.size)⟩
            · have hr0' : ¬ r < 0 := hr0
              obtain ⟨q, hq⟩ : ∃ q : Nat, r = q := ⟨r.toNat, by omega⟩
              subst hq
              have wi : IntKind.i64.wrap ((i : Int) + 1) = (i : Int) + 1 := by rw [wrap_i64]; omega
              have cr : ∀ o, Calls Try.prog 43 #[valV k' b' n' f' s' B len c, .int .i64 (q : Int)] (wr.alloc o) (LeftEnds l[i] q (wr.alloc o)) := fun o => ih (wsz l[i]) hsz l[i] rfl _ (wr.alloc o) q (hxr.keep (below_alloc _ _)) (by omega)
              have h1 := Lib.hid (hr.out.1 (by omega))
              generalize l[i] = x at *
              clear hx hat hxr ih hp hpart
              go_wp2_with ((with_reducible refine (cr _).mono ?_); rintro e w2 ⟨r2, rfl, g1, g2, g3, g4, hb2⟩)
              refine ⟨⟨i + 1, r2, rfl, rfl, hil, ?_, by omega, by omega, hbr.trans (((below_alloc _ _).trans (hb2.mono (by simp))).mono hbr.size)⟩, by simp [intOf]; omega⟩
              have h1 := h1.out
              exact ⟨fun h => by have := g1 h; omega, fun h => by have := g2 h; omega⟩
          · have hil' : ¬ (i : Int) < l.length := by omega
            have e : l.take i = l := List.take_of_length_le (by omega)
            have hf := hr.out
            rw [e] at hf
            have hf := Lib.hid hf
            clear ih hp hpart hr
            go_wp2_with fail
            go_ret
            exact ⟨_, rfl, fun h => by have := hf.out.1 h; rw [hbz]; omega, fun h => by have := hf.out.2 h; rw [hbz]; omega, by omega, by omega, bkr⟩
    · have e5 : (k == 5) = false := by simp; omega
      have e6 : (k == 6) = false := by simp; omega
      have hbz : bsz (.mk k b n f s l) = 9 := by simp [bsz, h0, h1, h4, h56]
      have hw : IntKind.i64.wrap ((m : Int) - 9) = (m : Int) - 9 := by rw [wrap_i64]; omega
      clear h0 h1 h4 h56
      go_wp2
      go_ret
      exact ⟨_, rfl, fun h => by rw [hbz]; omega, fun h => by rw [hbz]; omega, by omega, by omega, bk⟩
end Go.Proofs.Ytkbacjlnfmibaaa
