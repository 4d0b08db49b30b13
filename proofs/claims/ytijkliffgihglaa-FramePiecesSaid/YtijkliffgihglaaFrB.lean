/-
  Reader.Feed: it takes the frames off the bytes.
-/
import Derived.Test.YtijkliffgihglaaFrA
import Derived.OwnWalk
import Derived.RangeFuncBox
set_option linter.unusedSimpArgs false
set_option linter.unusedVariables false
namespace Go.Proofs.Ytijkliffgihglaa
open Go.RowKit

abbrev strs (l : List (List UInt8)) : List Value := l.map fun s => Value.string (st s)
/-- the reader at rb holds these bytes, and this error -/
structure Rd (w : World) (rb : Nat) (h : List UInt8) (e : Int) : Prop where
  held : w.cell? ⟨rb, 0, none⟩ = some (.string (st h))
  err : w.cell? ⟨rb, 1, none⟩ = some (.int .i64 e)
  f0 : w.frozen? ⟨rb, 0, none⟩ = false
  f1 : w.frozen? ⟨rb, 1, none⟩ = false
  lt : rb < w.heap.size
def heldLen (rb : Nat) (w : World) : Nat := match w.cell? ⟨rb, 0, none⟩ with | some (.string s) => s.size | _ => 0
theorem heldLen_of {rb : Nat} {w : World} {h : List UInt8} (hc : w.cell? ⟨rb, 0, none⟩ = some (.string (st h))) : heldLen rb w = h.length := by
  unfold heldLen; rw [hc]; exact st_size h

theorem Try.info9 : (Try.prog.info? 9).map (fun i => (i.zero, i.size, i.bytes)) = some (some (.string ByteArray.empty), 1, 16) := by kernel_rfl

/-- behind an append to the row of the frames -/
theorem feed_grow {w wr w1 : World} {rb n : Nat} {v : Value} {xs : List Value} {o : Obj} {h : List UInt8} {e : Int} (hr : Rd wr rb h e) (hlt : rb < w.heap.size) (hg : w.grownBy wr (some rb))
    (hown : wr.ownsRow w.heap.size 9 1 v n xs) (hgr : (wr.alloc o).grownBy w1 v.ownBlock) : Rd w1 rb h e ∧ w.grownBy w1 (some rb) := by
  have hne : some rb ≠ v.ownBlock := by
    rcases hown.2 with ⟨rfl, _⟩ | ⟨g, cap, cur, rfl, hb, _⟩
    · simp [Value.ownBlock]
    · simp [Value.ownBlock]; omega
  have hk : w1.heap[rb]? = wr.heap[rb]? := by
    rw [hgr.block rb (by simp; have := hr.lt; omega) hne]
    exact Below.heap_alloc _ _ _ hr.lt
  have hc : ∀ k, w1.cell? ⟨rb, k, none⟩ = wr.cell? ⟨rb, k, none⟩ := fun k => World.cell?_of_block (a := ⟨rb, k, none⟩) hk
  have hf : ∀ k, w1.frozen? ⟨rb, k, none⟩ = wr.frozen? ⟨rb, k, none⟩ := fun k => World.frozen?_of_block (a := ⟨rb, k, none⟩) hk
  have hsz : wr.heap.size + 1 ≤ w1.heap.size := by have := hgr.size; simpa using this
  refine ⟨⟨(hc 0).trans hr.held, (hc 1).trans hr.err, (hf 0).trans hr.f0, (hf 1).trans hr.f1, by have := hr.lt; omega⟩, ⟨hgr.os.trans hg.os, hgr.tape.trans hg.tape, hgr.output.trans hg.output, by have := hg.size; omega, fun k hk' hne' => ?_⟩⟩
  have hkr : k < wr.heap.size := by have := hg.size; omega
  have hkv : some k ≠ v.ownBlock := by
    rcases hown.2 with ⟨rfl, _⟩ | ⟨g, cap, cur, rfl, hb, _⟩
    · simp [Value.ownBlock]
    · simp [Value.ownBlock]; omega
  rw [hgr.block k (by simp; omega) hkv, Below.heap_alloc _ _ _ hkr]
  exact hg.block k hk' hne'

def errOf (b : Bool) : Int := if b then 3 else 0
def FeedEnds (rb : Nat) (h s : List UInt8) (w : World) (E : Ending) (w' : World) : Prop :=
  ∃ v fs r b, parse (h ++ s).length (h ++ s) = (fs, r, b) ∧ E = .returned (.tuple #[v, .int .i64 (errOf b)]) ∧
    w'.ownsRow w.heap.size 9 1 v fs.length (strs fs) ∧ Rd w' rb r (errOf b) ∧ w.grownBy w' (some rb)

theorem parse_short {h : List UInt8} (hl : h.length < 4) (k : Nat) : parse k h = ([], h, false) := by
  cases k with
  | zero => rfl
  | succ k => unfold parse; rw [if_pos hl]
theorem parse_big {h : List UInt8} (hl : ¬ h.length < 4) (hb : 30000 < wide (h.take 4)) {k : Nat} (hk : h.length ≤ k) : parse k h = ([], [], true) := by
  cases k with
  | zero => omega
  | succ k => unfold parse; rw [if_neg hl, if_pos hb]
theorem parse_cut {h : List UInt8} (hl : ¬ h.length < 4) (hb : ¬ 30000 < wide (h.take 4)) (hc : h.length < 4 + wide (h.take 4)) {k : Nat} (hk : h.length ≤ k) : parse k h = ([], h, false) := by
  cases k with
  | zero => omega
  | succ k => unfold parse; rw [if_neg hl, if_neg hb, if_pos hc]
theorem parse_one {h : List UInt8} (hl : ¬ h.length < 4) (hb : ¬ 30000 < wide (h.take 4)) (hc : ¬ h.length < 4 + wide (h.take 4)) {k : Nat} (hk : h.length ≤ k) :
    ∃ j, k = j + 1 ∧ parse k h = ((h.drop 4).take (wide (h.take 4)) :: (parse j (h.drop (4 + wide (h.take 4)))).1, (parse j (h.drop (4 + wide (h.take 4)))).2) := by
  cases k with
  | zero => omega
  | succ k => exact ⟨k, rfl, by rw [parse, if_neg hl, if_neg hb, if_neg hc]⟩
theorem feed_done {w w' : World} {rb : Nat} {v : Value} {h s rest r : List UInt8} {done : List (List UInt8)} {k : Nat} {b : Bool} (hP : parse (h ++ s).length (h ++ s) = (done ++ (parse k rest).1, (parse k rest).2))
    (hk : parse k rest = ([], r, b)) (hown : w'.ownsRow w.heap.size 9 1 v done.length (strs done)) (hr : Rd w' rb r (errOf b)) (hg : w.grownBy w' (some rb)) :
    ∀ nq, FeedEnds rb h s w (.returned (.tuple #[v, .int .i64 (errOf b)])) (w'.drewN nq) := by
  intro nq
  rw [hk] at hP
  simp only [List.append_nil] at hP
  exact ⟨v, done, r, b, hP, rfl, hown, ⟨hr.held, hr.err, hr.f0, hr.f1, hr.lt⟩, ⟨hg.os, hg.tape, hg.output, hg.size, hg.block⟩⟩

theorem grown_set {w w' : World} {rb : Nat} (hg : w.grownBy w' (some rb)) (k : Nat) (u : Value) : w.grownBy (w'.setCell ⟨rb, k, none⟩ u) (some rb) :=
  ⟨hg.os, hg.tape, hg.output, by simp [World.setCell]; exact hg.size, fun i hi hne => by rw [Below.heap_setCell _ _ _ _ (fun e => hne (by rw [e]))]; exact hg.block i hi hne⟩

set_option maxHeartbeats 4000000 in
theorem feed_c (rb : Nat) (h s : List UInt8) (w : World) (hr : Rd w rb h 0) (hl : h.length + s.length ≤ 1000000) :
    Calls Try.prog 15 #[.pointer (some ⟨rb, 0, none⟩), .string (st s)] w (FeedEnds rb h s w) := by
  obtain ⟨i0, hi, hz0, hz1, hz2⟩ := info_parts Try.info9
  obtain ⟨hr0, hr1, hr2, hr3, hr4⟩ := hr
  have hl' : ¬ 9223372036854775807 < h.length + s.length := by omega
  go_enter Try.func15, Try.ntmps15
  go_wp2
  go_loopw [6] (fun v wr => ∃ (done : List (List UInt8)) (rest : List UInt8) (k : Nat), wr.ownsRow w.heap.size 9 1 v done.length (strs done) ∧ Rd wr rb rest 0 ∧ w.grownBy wr (some rb) ∧
      rest.length ≤ k ∧ done.length * 4 + rest.length ≤ h.length + s.length ∧ Hid (parse (h ++ s).length (h ++ s) = (done ++ (parse k rest).1, (parse k rest).2))) (fun _ wr => heldLen rb wr)
  case atStart =>
    refine ⟨[], h ++ s, (h ++ s).length, World.ownsRow_nil _ _ _ _, ?_, ?_, Nat.le_refl _, by simp, rfl⟩
    · exact ⟨by simp [go_sem, hr0], by simp [go_sem, hr1], by simp [go_sem, hr2], by simp [go_sem, hr3], by simp [go_sem]; exact hr4⟩
    · exact grownBy_setCell' _ _ _
  case round =>
    obtain ⟨done, rest, k, hown, hrd, hg, hk, hn, hP⟩ := hrel
    have hm := Lib.hid (heldLen_of hrd.held)
    obtain ⟨q0, q1, q2, q3, q4⟩ := hrd
    by_cases h4 : rest.length < 4
    · have h4' : ¬ 4 ≤ (rest.length : Int) := by omega
      go_wp2
      go_quiet (fail)
      go_wp2
      go_ret2
      exact feed_done hP.out (parse_short h4 k) hown ⟨q0, q1, q2, q3, q4⟩ hg _
    · have n4 : 4 ≤ (rest.length : Int) := by omega
      have hw4 : wideN (rest.take 4) 8 = wide (rest.take 4) := by unfold wideN; rw [List.take_take]; congr 2
      have c := fun w => wide_c (rest.take 4) w (by unfold maxLen; simp; omega)
      rw [hw4] at c
      have hex : (⟨rest.toArray⟩ : ByteArray).extract 0 4 = ⟨(rest.take 4).toArray⟩ := by
        apply ByteArray.ext
        simp [ByteArray.data_extract, List.extract_eq_take_drop]
      by_cases hbig : 30000 < wide (rest.take 4)
      · have hbig' : 30000 < (wide (rest.take 4) : Int) := by omega
        go_wp2_with ((with_reducible refine (c _).mono ?_); rintro e w1 ⟨rfl, rfl⟩)
        go_quiet (fail)
        go_wp2
        go_ret2
        refine feed_done (b := true) hP.out (parse_big h4 hbig hk) ?_ ?_ ?_ _
        · exact ownsRow_setCell_below (ownsRow_setCell_below hown (by exact hr4) _) (by exact hr4) _
        · exact ⟨by simp [go_sem, q0], by simp [go_sem, q1, errOf], by simp [go_sem, q2], by simp [go_sem, q3], by simp [go_sem]; exact q4⟩
        · exact grown_set (grown_set hg _ _) _ _
      · have hbig' : ¬ 30000 < (wide (rest.take 4) : Int) := by omega
        have wr1 : IntKind.i64.wrap (wide (rest.take 4) : Int) = wide (rest.take 4) := by simp [IntKind.wrap, IntKind.bits, IntKind.signed]; omega
        by_cases hcut : rest.length < 4 + wide (rest.take 4)
        · have hcut' : (rest.length : Int) < 4 + (wide (rest.take 4) : Int) := by omega
          go_wp2_with ((with_reducible refine (c _).mono ?_); rintro e w1 ⟨rfl, rfl⟩)
          go_quiet (fail)
          go_wp2
          go_ret2
          exact feed_done (b := false) hP.out (parse_cut h4 hbig hcut hk) hown ⟨q0, q1, q2, q3, q4⟩ hg _
        · have hcut' : ¬ (rest.length : Int) < 4 + (wide (rest.take 4) : Int) := by omega
          have hcut2 : 4 + (wide (rest.take 4) : Int) ≤ (rest.length : Int) := by omega
          obtain ⟨j, hkj, hpj⟩ := parse_one h4 hbig hcut hk
          have hpj := Lib.hid hpj
          have hx : (⟨rest.toArray⟩ : ByteArray).extract 4 (4 + wide (rest.take 4)) = ⟨((rest.drop 4).take (wide (rest.take 4))).toArray⟩ := by
            apply ByteArray.ext
            simp [ByteArray.data_extract, List.extract_eq_take_drop]
          have hy : (⟨rest.toArray⟩ : ByteArray).extract (4 + wide (rest.take 4)) rest.length = ⟨(rest.drop (4 + wide (rest.take 4))).toArray⟩ := by
            apply ByteArray.ext
            simp [ByteArray.data_extract, List.extract_eq_take_drop]
            exact List.take_of_length_le (by simp)
          generalize hN : wide (rest.take 4) = N at *
          generalize hX : (rest.drop 4).take N = X at *
          go_wp2_with (first | ((with_reducible refine (c _).mono ?_); rintro e w1 ⟨rfl, rfl⟩) | (at_builtin; refine wpList_append_own _ rfl _ _ 34 rfl w.heap.size 9 i0 (.string ByteArray.empty) 1 16 Try.underlying34 hi hz0 hz1 hz2 rfl (by decide) _ _ _ rfl (hown.alloc _) ⟨wr.heap.size, 0, none⟩ 1 1 [.string (st X)] rfl rfl ?c1 ?c2 ?c3 ?c4 ?c5 ?_))
          case c1 =>
            intro j u hj
            match j, hj with
            | 0, hj => simp at hj; subst hj; simp [Addr.add]
          case c2 => intro u hu; simp at hu; subst hu; rfl
          case c3 => unfold maxLen; omega
          case c4 => omega
          case c5 => have := hg.size; simp; omega
          intro v' w1 hown' hgrow _
          have R := feed_grow ⟨q0, q1, q2, q3, q4⟩ hr4 hg hown hgrow
          obtain ⟨⟨p0, p1, p2, p3, p4⟩, hg1⟩ := R
          clear hgrow hown q0 q1 q2 q3 q4
          go_wp2
          go_roundw
          case rel =>
            refine ⟨done ++ [X], rest.drop (4 + N), j, ?_, ?_, grown_set hg1 _ _, by rw [List.length_drop]; omega, by rw [List.length_drop, List.length_append]; simp; omega, ?_⟩
            · have := ownsRow_setCell_below hown' (a := ⟨rb, 0, none⟩) (by exact hr4) (.string (st (rest.drop (4 + N))))
              simpa using this
            · exact ⟨by simp [go_sem, p0], by simp [go_sem, p1], by simp [go_sem, p2], by simp [go_sem, p3], by simp [go_sem]; exact p4⟩
            · show _ = _
              rw [hP.out, hpj.out]
              simp
          case measure =>
            rw [hm.out, heldLen_of (h := rest.drop (4 + N)) (by simp [go_sem, p0]), List.length_drop]
            omega
end Go.Proofs.Ytijkliffgihglaa
