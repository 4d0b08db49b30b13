
/-
  How many predicates and values stand in one: offshootlaw16.weigh.
-/
import Derived.Test.YtglcnnnjdkjggaaPry
import Derived.Test.YtglcnnnjdkjggaaWgh
set_option linter.unusedSimpArgs false
set_option linter.unusedVariables false
namespace Go.Proofs.Ytglcnnnjdkjggaa
open Go.RowKit

mutual
/-- how many predicates and values stand in one -/
def qwt : Pr → Nat
  | .mk _ l kids => 1 + wszL l + qwtL kids
def qwtL : List Pr → Nat
  | [] => 0
  | q :: l => qwt q + qwtL l
end
theorem qwtL_append (a b : List Pr) : qwtL (a ++ b) = qwtL a + qwtL b := by
  induction a with
  | nil => simp [qwtL]
  | cons q a ih => simp [qwtL, ih]; omega
theorem qwtL_take {l : List Pr} {i : Nat} {x : Pr} (h : l[i]? = some x) : qwtL (l.take (i + 1)) = qwtL (l.take i) + qwt x := by
  obtain ⟨hi, rfl⟩ := List.getElem?_eq_some_iff.1 h
  rw [List.take_succ_eq_append_getElem hi, qwtL_append]
  simp [qwtL]
theorem qwtL_take_le (l : List Pr) (i : Nat) : qwtL (l.take i) ≤ qwtL l := by
  have h : qwtL l = qwtL (l.take i) + qwtL (l.drop i) := by rw [← qwtL_append, List.take_append_drop]
  omega
def SomeEnds (q : Pr) (m : Nat) (w : World) (e : Ending) (w' : World) : Prop := e = .returned (.int .i64 ((min (qwt q) (m + 1) : Nat) : Int)) ∧ Below w.heap.size w w'
theorem ret_nat {a b : Nat} (h : a = b) : Ending.returned (.int .i64 (a : Int)) = .returned (.int .i64 (b : Int)) := by rw [h]
set_option maxRecDepth 8000 in
set_option maxHeartbeats 4000000 in
theorem weighQ_c (q : Pr) : ∀ (u : Value) (w : World) (m : Nat), HasQ w u q → m ≤ 10000 → Calls Try.prog 8 #[u, .int .i64 m] w (SomeEnds q m w) := by
  generalize hz : qsz q = z
  induction z using Nat.strongRecOn generalizing q with
  | _ z ih =>
    intro u w m hv hm
    obtain ⟨A, cap, K, kcap, rfl, hs, hp, hl, hmx, hkl, hkm, hk⟩ := hv.open
    have hpart := fun i x => qsz_part (q := q) (x := x) (i := i)
    rw [hz] at hpart
    obtain ⟨op, l, kids⟩ := q
    dsimp only [Pr.op, Pr.l, Pr.kids] at *
    have hK : KidsAt w K kids := hk
    have hW := Lib.hid (show qwt (.mk op l kids) = 1 + wszL l + qwtL kids by rw [qwt])
    have hwl := Lib.hid (wszL_take_le l)
    have hkl2 := Lib.hid (qwtL_take_le kids)
    unfold maxLen at hmx hkm
    clear hv hz hk hs
    go_enter Try.func8, Try.ntmps8
    go_upto_region 1 with fail
    obtain ⟨w1, hw1⟩ : ∃ w1, w1 = w.alloc (.cells #[.string (st op), .slice A l.length cap, .slice K kids.length kcap] 25) := ⟨_, rfl⟩
    have bk : Below w.heap.size w w1 := hw1 ▸ below_alloc w _
    have x1 : w1.cell? ⟨w.heap.size, 1, none⟩ = some (.slice A l.length cap) := by rw [hw1]; simp [go_sem]
    have x2 : w1.cell? ⟨w.heap.size, 2, none⟩ = some (.slice K kids.length kcap) := by rw [hw1]; simp [go_sem]
    have x6 : w.heap.size < w1.heap.size := by rw [hw1]; simp
    rw [← hw1]
    clear hw1
    go_wp2_with fail
    go_loopw [5, 6] (fun a5 a6 wr => ∃ i r : Nat, a6 = .int .i64 i ∧ a5 = .int .i64 r ∧ i ≤ l.length ∧ 1 ≤ r ∧ r ≤ m + 1 ∧ Hid (r = min (1 + wszL (l.take i)) (m + 1)) ∧ Below w1.heap.size w1 wr) (fun _ a6 _ => l.length - (intOf a6).toNat)
    case atStart => exact ⟨0, 1, rfl, rfl, Nat.zero_le _, Nat.le_refl _, by omega, (show _ = _ by simp [wszL] <;> omega), Below.refl _ _⟩
    case round =>
      obtain ⟨i, r, rfl, rfl, hi, hr1, hrm, hmin, hbr⟩ := hrel
      have bkr := bk.trans (hbr.mono bk.size)
      have x1r := (hbr.cell (p := ⟨w.heap.size, 1, none⟩) x6).trans x1
      have x2r := (hbr.cell (p := ⟨w.heap.size, 2, none⟩) x6).trans x2
      have x6r := Nat.lt_of_lt_of_le x6 hbr.size
      by_cases hgo : i < l.length ∧ r ≤ m
      · have hil' : (i : Int) < l.length := by omega
        have hrl' : (r : Int) ≤ m := by omega
        obtain ⟨ad, k, b, n, f, s, B, len, c, rfl, hx, hat⟩ := hp i l[i] (by simp [hgo.1])
        obtain ⟨q0, q1, q2, q3, q4, q5, q6⟩ := hat.keep bkr
        obtain ⟨y, hy⟩ : ∃ y, y = m - r := ⟨_, rfl⟩
        have cr := weighN_c l[i] _ wr y (hx.keep bkr) (by omega)
        have hwt := Lib.hid (wszL_take (l := l) (x := l[i]) (i := i) (by simp [hgo.1]))
        have hsub : IntKind.i64.wrap ((m : Int) - r) = (y : Int) := by rw [wrap_i64]; omega
        have hY := Lib.hid hy
        have wi : IntKind.i64.wrap ((i : Int) + 1) = (i : Int) + 1 := by rw [wrap_i64]; omega
        have cr' : Calls Try.prog 13 #[valV k b n f s B len c, .int .i64 (y : Int)] wr fun e w' => ∃ r2 : Nat, e = .returned (.int .i64 r2) ∧ IntKind.i64.wrap ((r : Int) + r2) = (r : Int) + r2 ∧ Hid (r2 = min (wsz l[i]) (y + 1)) ∧ Below wr.heap.size wr w' :=
          cr.mono fun e w' ⟨h1, h5⟩ => ⟨_, h1, by rw [wrap_i64]; omega, rfl, h5⟩
        clear hx hp ih hK cr hy hpart
        generalize l[i] = x at *
        go_wp2_with ((with_reducible refine cr'.mono ?_); rintro e w2 ⟨r2, rfl, hw, hg, hb2⟩)
        have g1 := hg.out
        have hYq := hY.out
        have hm1 := hmin.out
        have hwt1 := hwt.out
        exact ⟨⟨i + 1, r + r2, rfl, by simp, hgo.1, by omega, by omega, (show _ = _ by rw [hwt1]; omega), hbr.trans (hb2.mono hbr.size)⟩, by simp [intOf]; omega⟩
      · have hcond : (i : Int) < l.length → ¬ (r : Int) ≤ m := by omega
        by_cases hil : i < l.length
        · have hil' : (i : Int) < l.length := by omega
          have hrl' : ¬ (r : Int) ≤ m := by omega
          have hend := Lib.hid (show m + 1 = min (qwt (.mk op l kids)) (m + 1) by have h1 := hW.out; have h2 := hmin.out; have h3 := hwl.out i; omega)
          clear hp ih hK hpart hcond hgo
          go_wp2_with fail
          go_loopw [5, 7] (fun a5 a7 wq => ∃ j r : Nat, a7 = .int .i64 j ∧ a5 = .int .i64 r ∧ 1 ≤ r ∧ r = m + 1 ∧ Below w1.heap.size w1 wq) (fun _ _ _ => 0)
          case atStart => exact ⟨0, r, rfl, rfl, hr1, by omega, hbr⟩
          case round =>
            obtain ⟨j, r', rfl, rfl, hr1', hrm', hbq⟩ := hrel
            have x2q := (hbq.cell (p := ⟨w.heap.size, 2, none⟩) x6).trans x2
            have x6q := Nat.lt_of_lt_of_le x6 hbq.size
            have hrl'' : ¬ (r' : Int) ≤ m := by omega
            have hH := Lib.hid hrm'
            clear hrm'
            by_cases hjl : (j : Int) < kids.length
            · go_wp2_with fail
              go_ret
              exact ⟨ret_nat (hH.out.trans hend.out), bk.trans (hbq.mono bk.size)⟩
            · go_wp2_with fail
              go_ret
              exact ⟨ret_nat (hH.out.trans hend.out), bk.trans (hbq.mono bk.size)⟩
        · have hil' : ¬ (i : Int) < l.length := by omega
          have hmin0 := hmin.out
          rw [List.take_of_length_le (by omega)] at hmin0
          have hst0 := Lib.hid (show r = min (1 + wszL l + qwtL (kids.take 0)) (m + 1) by simp [qwtL]; omega)
          clear hp hcond hgo hmin0 hmin
          go_wp2_with fail
          go_loopw [5, 7] (fun a5 a7 wq => ∃ j r : Nat, a7 = .int .i64 j ∧ a5 = .int .i64 r ∧ j ≤ kids.length ∧ 1 ≤ r ∧ r ≤ m + 1 ∧ Hid (r = min (1 + wszL l + qwtL (kids.take j)) (m + 1)) ∧ Below w1.heap.size w1 wq) (fun _ a7 _ => kids.length - (intOf a7).toNat)
          case atStart => exact ⟨0, r, rfl, rfl, Nat.zero_le _, hr1, hrm, hst0.out, hbr⟩
          case round =>
            obtain ⟨j, r', rfl, rfl, hj, hr1', hrm', hmin', hbq⟩ := hrel
            have bkq := bk.trans (hbq.mono bk.size)
            have x2q := (hbq.cell (p := ⟨w.heap.size, 2, none⟩) x6).trans x2
            have x6q := Nat.lt_of_lt_of_le x6 hbq.size
            by_cases hjl : j < kids.length
            · have hjl' : (j : Int) < kids.length := by omega
              by_cases hrl : r' ≤ m
              · have hrl' : (r' : Int) ≤ m := by omega
                obtain ⟨ad, op', B, n, c, J, jn, jc, rfl, hx, hat⟩ := hK j kids[j] (by simp)
                obtain ⟨q6, q0, q1, q2⟩ := hat.keep bkq
                obtain ⟨y, hy⟩ : ∃ y, y = m - r' := ⟨_, rfl⟩
                have hwt := Lib.hid (qwtL_take (l := kids) (x := kids[j]) (i := j) (by simp))
                have cr := ih (qsz kids[j]) (hpart j kids[j] (by simp)) kids[j] rfl _ wr y (hx.keep bkq) (by omega)
                have hsub : IntKind.i64.wrap ((m : Int) - r') = (y : Int) := by rw [wrap_i64]; omega
                have hY := Lib.hid hy
                have wi : IntKind.i64.wrap ((j : Int) + 1) = (j : Int) + 1 := by rw [wrap_i64]; omega
                have cr' : Calls Try.prog 8 #[predV op' B n c J jn jc, .int .i64 (y : Int)] wr fun e w' => ∃ r2 : Nat, e = .returned (.int .i64 r2) ∧ IntKind.i64.wrap ((r' : Int) + r2) = (r' : Int) + r2 ∧ Hid (r2 = min (qwt kids[j]) (y + 1)) ∧ Below wr.heap.size wr w' :=
                  cr.mono fun e w' ⟨h1, h5⟩ => ⟨_, h1, by rw [wrap_i64]; omega, rfl, h5⟩
                clear hx ih hK cr hy hpart
                generalize kids[j] = x at *
                go_wp2_with ((with_reducible refine cr'.mono ?_); rintro e w2 ⟨r2, rfl, hw, hg, hb2⟩)
                have g1 := hg.out
                have hYq := hY.out
                have hm1 := hmin'.out
                have hwt1 := hwt.out
                have hpos : 1 ≤ qwt x := by cases x; simp [qwt]; omega
                exact ⟨⟨j + 1, r' + r2, rfl, by simp, hjl, by omega, by omega, (show _ = _ by rw [hwt1]; omega), hbq.trans (hb2.mono hbq.size)⟩, by simp [intOf]; omega⟩
              · have hrl' : ¬ (r' : Int) ≤ m := by omega
                have hend := Lib.hid (show r' = min (qwt (.mk op l kids)) (m + 1) by have h1 := hW.out; have h2 := hmin'.out; have h3 := hkl2.out j; omega)
                clear ih hK hpart
                go_wp2_with fail
                go_ret
                exact ⟨ret_nat hend.out, bkq⟩
            · have hjl' : ¬ (j : Int) < kids.length := by omega
              have hend := Lib.hid (show r' = min (qwt (.mk op l kids)) (m + 1) by have h1 := hW.out; have h2 := hmin'.out; rw [List.take_of_length_le (by omega)] at h2; omega)
              clear ih hK hpart
              go_wp2_with fail
              go_ret
              exact ⟨ret_nat hend.out, bkq⟩
end Go.Proofs.Ytglcnnnjdkjggaa
