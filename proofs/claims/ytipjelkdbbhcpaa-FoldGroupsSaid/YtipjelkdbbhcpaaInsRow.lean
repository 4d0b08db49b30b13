
/-
  slices.Insert at []int: printed by mkins.py.
-/
import Derived.Test.YtipjelkdbbhcpaaInsA
import Derived.Test.YtipjelkdbbhcpaaBytes
import Derived.Shelf.RegionOpenPlain
set_option linter.unusedSimpArgs false
set_option linter.unusedVariables false
namespace Go.Proofs.Ytipjelkdbbhcpaa
open Go.RowKit

theorem insRow_info : ∃ i, Try.prog.info? 28 = some i ∧ i.zero = some (.slice none 0 0) ∧ i.size = 1 ∧ i.bytes = 24 := by
  have h : (Try.prog.info? 28).map (fun i => (i.zero, i.size, i.bytes)) = some (some (.slice none 0 0), 1, 24) := by kernel_rfl
  obtain ⟨i, hi, h2⟩ := Option.map_eq_some_iff.1 h
  simp only [Prod.mk.injEq] at h2
  exact ⟨i, hi, h2.1, h2.2.1, h2.2.2⟩
def InsRowEnds (base : Nat) (v : Value) (n m : Nat) (xs news : List Value) (i : Nat) (w : World) (e : Ending) (w' : World) : Prop :=
  ∃ v', e = .returned v' ∧ w'.ownsRow base 28 1 v' (n + m) (xs.take (i * 1) ++ news ++ xs.drop (i * 1)) ∧ w.grownBy w' v.ownBlock
set_option maxRecDepth 8000 in
set_option maxHeartbeats 4000000 in
theorem insEndRow_c (base : Nat) (v : Value) (n m r : Nat) (xs news : List Value) (w : World) (hown : w.ownsRow base 28 1 v n xs) (hb : base ≤ w.heap.size) (hn : n ≤ 1000000) (hm0 : 0 < m) (hm : m ≤ 1000000)
    (hnl : news.length = m * 1) (hnews : ∀ j u, news[j]? = some u → w.cell? ⟨r, j, none⟩ = some u) (h1 : ∀ u ∈ news, u.oneCell' = true) :
    Calls Try.prog 52 #[v, .int .i64 (n : Int), .slice (some ⟨r, 0, none⟩) m m] w (InsRowEnds base v n m xs news n w) := by
  obtain ⟨A, cap, rfl, hcap⟩ : ∃ A cap, v = .slice A n cap ∧ n ≤ cap := by
    rcases hown.2 with ⟨hv, hn⟩ | ⟨gb, cap, cur, hv, _, _, hnc, _⟩
    · exact ⟨none, 0, by rw [hv, hn], by omega⟩
    · exact ⟨_, cap, hv, hnc⟩
  have hcap' : (n : Int) ≤ cap := by omega
  have hm0' : ¬ ((m : Int) = 0) := by omega
  obtain ⟨i0, hi0, hz0, hz1, hz2⟩ := insRow_info
  obtain ⟨GOAL, hG⟩ : ∃ G, G = InsRowEnds base (.slice A n cap) n m xs news n w := ⟨_, rfl⟩
  rw [← hG]
  go_enter Try.func52, Try.ntmps52
  go_wp2_with (at_builtin; refine wpList_append_own _ rfl _ _ 45 rfl base 28 i0 (.slice none 0 0) 1 24 Try.underlying45 hi0 hz0 hz1 hz2 rfl (by decide) _ _ _ rfl hown ⟨r, 0, none⟩ m m news rfl hnl ?e1 h1 ?e3 ?e4 hb ?_)
  case e1 => intro j u hj; rw [insAdd]; simpa using hnews j u hj
  case e3 => unfold maxLen; omega
  case e4 => omega
  all_goals
    intro v' w' hown' hgrow _
    go_wp2_with fail
    rw [hG]
    refine ⟨v', rfl, ?_, ?_⟩
    · rw [List.take_of_length_le (by rw [hown.1]; omega), List.drop_of_length_le (by rw [hown.1]; omega), List.append_nil]
      exact hown'
    · first | exact hgrow | (rw [‹cap = n›]; exact hgrow)
set_option maxRecDepth 8000 in
set_option maxHeartbeats 8000000 in
/-- no room: a new row -/
theorem insGrowRow_c (base g n cap i m r : Nat) (xs news : List Value) (w : World) (hown : w.ownsRow base 28 1 (.slice (some ⟨g, 0, none⟩) n cap) n xs) (hb : base ≤ w.heap.size) (hi : i < n) (hn : n ≤ 1000000) (hm0 : 0 < m) (hm : m ≤ 1000000) (hroom : cap < n + m) (hnc : n ≤ cap)
    (hnl : news.length = m * 1) (hrl : r < w.heap.size) (hnews : ∀ j u, news[j]? = some u → w.cell? ⟨r, j, none⟩ = some u) (h1 : ∀ u ∈ news, u.oneCell' = true) (h1x : ∀ u ∈ xs, u.oneCell' = true) :
    Calls Try.prog 52 #[.slice (some ⟨g, 0, none⟩) n cap, .int .i64 (i : Int), .slice (some ⟨r, 0, none⟩) m m] w (InsRowEnds base (.slice (some ⟨g, 0, none⟩) n cap) n m xs news i w) := by
  obtain ⟨i0, hi0, hz0, hz1, hz2⟩ := insRow_info
  have hsz : (Try.prog.info? 28).map (·.size) = some 1 := by rw [hi0]; simp [hz1]
  have hgl := (hown.lt g rfl).2
  have hxl := hown.1
  have hless := own_fewer hown (Nat.le_of_lt hi)
  obtain ⟨mm, hmm⟩ : ∃ mm, mm = n + m - i := ⟨_, rfl⟩
  obtain ⟨c2, w2, hrun, hown2, hg2, hc2, hcm2⟩ := run_append_zeros_own w 45 3 45 28 i0 (.slice none 0 0) .i64 1 24 base g i cap mm _ hless hb Try.underlying45 Try.underlying3 hi0 hz0 hz1 hz2 rfl (by decide) (by omega) (by omega) (by unfold maxLen; omega) (by omega)
  rw [show i + mm = n + m by omega] at hrun hown2
  obtain ⟨g2, hg2e⟩ : ∃ g2, g2 = w.heap.size := ⟨_, rfl⟩
  rw [← hg2e] at hrun hown2
  obtain ⟨W3, hW3⟩ : ∃ W3, W3 = w2.setCells g2 (i * 1) news := ⟨_, rfl⟩
  have hz2l := hown2.1
  have p3 := own_puts news (i * 1) hown2 (by rw [hz2l, hnl]; omega)
  rw [← hW3] at p3
  obtain ⟨hown3, hg3⟩ := p3
  have hz3l := hown3.1
  have hcp1 : ∀ ty dc, (Builtin.copy_ #[45, 45] ty #[.slice (some ⟨g2, i * 1, none⟩) (n + m - i) dc, .slice (some ⟨r, 0, none⟩) m m]).run Try.prog w2 = .ok (goInt ((Nat.min m (n + m - i) : Nat) : Int)) W3 := fun ty dc => by
    rw [hW3]
    exact run_copy_own w2 _ _ ty 28 1 base g2 (n + m) c2 i _ _ dc ⟨r, 0, none⟩ m m _ news hown2 Try.underlying45 hsz rfl (by rw [hnl]; omega) (by rw [hnl]; simp only [Nat.min_def]; split <;> omega) (fun j u hj => by rw [insAdd, Nat.zero_add]; exact hg2.cell (hnews j u hj) (by simp)) h1
  have hsrc : ∀ j u, (xs.drop (i * 1))[j]? = some u → W3.cell? ((⟨g, i * 1, none⟩ : Addr).add j) = some u := fun j u hj => by
    rw [insAdd]
    rw [List.getElem?_drop] at hj
    have hjl := (List.getElem?_eq_some_iff.1 hj).1
    refine hg3.cell (hg2.cell (w := w) ?_ (by simp)) ?_
    · rw [hown.cellAt _ (by rw [← hxl]; exact hjl)]
      exact hj
    · simp
      omega
  have hdl : (xs.drop (i * 1)).length = (n - i) * 1 := by rw [List.length_drop, hxl, Nat.sub_mul]
  obtain ⟨W4, hW4⟩ : ∃ W4, W4 = W3.drew.setCells g2 ((i + m) * 1) (xs.drop (i * 1)) := ⟨_, rfl⟩
  have p4 := own_puts (w := W3.drew) (xs.drop (i * 1)) ((i + m) * 1) (own_drew hown3) (by rw [hz3l, hdl]; omega)
  rw [← hW4] at p4
  obtain ⟨hown4, hg4⟩ := p4
  have hcp2 : ∀ ty dc sc, (Builtin.copy_ #[45, 45] ty #[.slice (some ⟨g2, (i + m) * 1, none⟩) (n + m - (i + m)) dc, .slice (some ⟨g, i * 1, none⟩) (n - i) sc]).run Try.prog W3.drew = .ok (goInt ((Nat.min (n - i) (n + m - (i + m)) : Nat) : Int)) W4 := fun ty dc sc => by
    rw [hW4]
    exact run_copy_own W3.drew _ _ ty 28 1 base g2 (n + m) c2 (i + m) _ _ dc ⟨g, i * 1, none⟩ (n - i) sc _ _ (own_drew hown3) Try.underlying45 hsz rfl (by rw [hdl]; omega) (by rw [hdl]; simp only [Nat.min_def]; split <;> omega) (fun j u hj => by simpa using hsrc j u hj) (fun u hu => h1x u (List.mem_of_mem_drop hu))
  have hfin : InsRowEnds base (.slice (some ⟨g, 0, none⟩) n cap) n m xs news i w (.returned (.slice (some ⟨g2, 0, none⟩) (n + m) c2)) W4 := by
    refine ⟨_, rfl, ?_, ?_⟩
    · have e : puts (puts (xs.take (i * 1) ++ (Builtin.zeroCells (.slice none 0 0 : Value).cells mm).toList) (i * 1) news) ((i + m) * 1) (xs.drop (i * 1)) = xs.take (i * 1) ++ news ++ xs.drop (i * 1) := by
        have ht : (xs.take (i * 1)).length = i * 1 := by rw [List.length_take, hxl]; omega
        have a1 : puts (xs.take (i * 1) ++ (Builtin.zeroCells (.slice none 0 0 : Value).cells mm).toList) (i * 1) news = xs.take (i * 1) ++ (news ++ (Builtin.zeroCells (.slice none 0 0 : Value).cells mm).toList.drop (m * 1)) := by
          unfold puts
          rw [List.take_left' ht, List.drop_append, ht, List.drop_of_length_le (by rw [ht]; omega), hnl]
          rw [Nat.add_sub_cancel_left, List.nil_append, List.append_assoc]
        rw [a1]
        unfold puts
        have a2 : (xs.take (i * 1) ++ (news ++ (Builtin.zeroCells (.slice none 0 0 : Value).cells mm).toList.drop (m * 1))).take ((i + m) * 1) = xs.take (i * 1) ++ news := by
          rw [← List.append_assoc]
          exact List.take_left' (by rw [List.length_append, ht, hnl]; omega)
        have a3 : (xs.take (i * 1) ++ (news ++ (Builtin.zeroCells (.slice none 0 0 : Value).cells mm).toList.drop (m * 1))).drop ((i + m) * 1 + (xs.drop (i * 1)).length) = [] := List.drop_of_length_le (by
          have hz := hz2l
          rw [List.length_append, ht] at hz
          rw [List.length_append, List.length_append, List.length_drop, List.length_drop, ht, hnl, hxl]
          omega)
        rw [a2, a3, List.append_nil]
      rw [← e]
      exact hown4
    · exact ⟨hg4.os.trans (hg3.os.trans hg2.os), hg4.tape.trans (hg3.tape.trans hg2.tape), hg4.output.trans (hg3.output.trans hg2.output), Nat.le_trans hg2.size (Nat.le_trans hg3.size hg4.size), fun k hk hne =>
        (hg4.block k (Nat.lt_of_lt_of_le hk (Nat.le_trans hg2.size hg3.size)) (by simp; omega)).trans ((hg3.block k (Nat.lt_of_lt_of_le hk hg2.size) (by simp; omega)).trans (hg2.block k hk (by simp)))⟩
  have hz1 : ¬ ((m : Int) = 0) := by omega
  have hz2' : ¬ ((i : Int) = (n : Int)) := by omega
  have hw1 : IntKind.i64.wrap ((n : Int) + (m : Int)) = (n : Int) + (m : Int) := by rw [IntKind.wrap_i64]; omega
  have hw2 : IntKind.i64.wrap ((n : Int) + (m : Int) - (i : Int)) = (mm : Int) := by rw [IntKind.wrap_i64]; omega
  have hw3 : IntKind.i64.wrap ((i : Int) + (m : Int)) = (i : Int) + (m : Int) := by rw [IntKind.wrap_i64]; omega
  have hgt : (cap : Int) < (n : Int) + (m : Int) := by omega
  have hin : i ≤ n := by omega
  have hic : i ≤ cap := by omega
  have hic' : (i : Int) ≤ (cap : Int) := by omega
  have hin' : (i : Int) ≤ (n : Int) := by omega
  have hinm : (i : Int) ≤ (n : Int) + (m : Int) := by omega
  have hmi : (i : Int) + (m : Int) ≤ (n : Int) + (m : Int) := by omega
  have hb1 : (0 : Int) ≤ (i : Int) + (m : Int) := by omega
  have htn : ((i : Int) + (m : Int)).toNat = i + m := by omega
  have hcc : ¬ (c2 = i) := by omega
  have hcc2 : ¬ (cap = i) := by omega
  have hcc3 : (c2 = i + m) = False := by simp; omega
  simp only [Nat.mul_one] at hcp1 hcp2
  have hF := Lib.hid hfin
  have hmmP := Lib.hid hmm
  obtain ⟨GOAL, hG⟩ : ∃ G, G = InsRowEnds base (.slice (some ⟨g, 0, none⟩) n cap) n m xs news i w := ⟨_, rfl⟩
  rw [← hG]
  have hG := Lib.hid hG
  have mixed : Try.prog.follows Departure.mixedOrders = true := by kernel_rfl
  clear hown hfin hown2 hown3 hown4 hW3 hW4 hsrc hless hnews h1 h1x hdl hnl hxl hz2l hz3l hg2 hg3 hg4 hi0 hz0 hsz hmm hg2e
  go_enter Try.func52, Try.ntmps52
  go_wp2_with (at_builtin; first | refine Lib.wpList_append_run _ rfl _ _ _ _ rfl _ _ rfl rfl _ _ hrun ?_ | refine wpList_copy_run _ rfl _ _ 45 45 rfl _ _ rfl rfl (hcp1 _ _) ?_)
  go_region_law_o (refine step_copy_run rfl _ _ 45 45 rfl _ _ (by simp [Act.eval, Act.put]) (by simp [Act.eval, Act.put]) (hcp2 _ _ _) ?_)
  go_wp2_with fail
  rw [hG.out]
  exact hF.out
set_option maxRecDepth 8000 in
set_option maxHeartbeats 8000000 in
/-- there is room: in place -/
theorem insShiftRow_c (base g n cap i m r : Nat) (Tr : TypeId) (xs news : List Value) (w : World) (hown : w.ownsRow base 28 1 (.slice (some ⟨g, 0, none⟩) n cap) n xs) (hi : i < n) (hn : n ≤ 1000000) (hm0 : 0 < m) (hm : m ≤ 1000000) (hroom : n + m ≤ cap) (hcap : cap ≤ maxLen)
    (hnl : news.length = m * 1) (hrg : r ≠ g) (hrb : w.heap[r]? = some (.cells news.toArray Tr)) (h1 : ∀ u ∈ news, u.oneCell' = true) (h1x : ∀ u ∈ xs, u.oneCell' = true) :
    Calls Try.prog 52 #[.slice (some ⟨g, 0, none⟩) n cap, .int .i64 (i : Int), .slice (some ⟨r, 0, none⟩) m m] w (InsRowEnds base (.slice (some ⟨g, 0, none⟩) n cap) n m xs news i w) := by
  obtain ⟨i0, hi0, hz0, hz1, hz2⟩ := insRow_info
  have hsz : (Try.prog.info? 28).map (·.size) = some 1 := by rw [hi0]; simp [hz1]
  have hsof : ∀ w, (Go.sizeOf 28).run Try.prog w = .ok 1 w := fun w => by simp [sizeOf, typeInfo, hi0, hz1]
  have hgl := (hown.lt g rfl).2
  have hxl := hown.1
  have hrl := (Array.getElem?_eq_some_iff.1 hrb).1
  obtain ⟨kB, hsB, hkB⟩ := own_shape hown
  have hov : ∀ lb cb, (callFunc 72 #[.slice (some ⟨r, 0, none⟩) m m, .slice (some ⟨g, (i + m) * 1, none⟩) lb cb]).run Try.prog w = .ok (.value (.bool false)) w := fun lb cb => by
    rw [run_callFunc_extern Try.func72 (by kernel_rfl) (by kernel_rfl) (by kernel_rfl) (e := Extern.SlicesOverlaps.overlaps #[45, 45] #[4]) (by kernel_rfl),
      Lib.run_overlaps_apart w 45 4 28 Try.underlying45 1 hsof ⟨r, 0, none⟩ ⟨g, (i + m) * 1, none⟩ m m lb cb hrg Tr 28 news.toArray.size kB (by simp [World.shape?, hrb]) hsB (by omega) (frozen_of_row w r 0 _ Tr hrb) (frozen_of_row w r _ _ Tr hrb)]
    rfl
  have hnews : ∀ j u, news[j]? = some u → w.cell? ⟨r, j, none⟩ = some u := fun j u hu => by
    rw [cell_of_row w r j _ Tr (0, 0) hrb]
    simpa using hu
  obtain ⟨ys, hyl, hownF⟩ := own_further hown (m := n + m) (by omega) hroom
  rw [Nat.add_sub_cancel_left] at hyl
  have hzl := hownF.1
  have hdl : (xs.drop (i * 1)).length = (n - i) * 1 := by rw [List.length_drop, hxl, Nat.sub_mul]
  obtain ⟨W1, hW1⟩ : ∃ W1, W1 = w.drew.setCells g ((i + m) * 1) (xs.drop (i * 1)) := ⟨_, rfl⟩
  have p1 := own_puts (w := w.drew) (xs.drop (i * 1)) ((i + m) * 1) (own_drew hownF) (by rw [hzl, hdl]; omega)
  rw [← hW1] at p1
  obtain ⟨hown1, hg1⟩ := p1
  have hcp1 : ∀ ty dc sc, (Builtin.copy_ #[45, 45] ty #[.slice (some ⟨g, (i + m) * 1, none⟩) (n + m - (i + m)) dc, .slice (some ⟨g, i * 1, none⟩) (n + m - i) sc]).run Try.prog w.drew = .ok (goInt ((Nat.min (n + m - i) (n + m - (i + m)) : Nat) : Int)) W1 := fun ty dc sc => by
    rw [hW1]
    exact run_copy_own w.drew _ _ ty 28 1 base g (n + m) cap (i + m) _ _ dc ⟨g, i * 1, none⟩ (n + m - i) sc _ _ (own_drew hownF) Try.underlying45 hsz rfl (by rw [hdl]; omega) (by rw [hdl]; simp only [Nat.min_def]; split <;> omega) (fun j u hj => by
      rw [insAdd, World.cell?_drew]
      rw [List.getElem?_drop] at hj
      have hjl := (List.getElem?_eq_some_iff.1 hj).1
      rw [hown.cellAt _ (by rw [← hxl]; exact hjl)]
      exact hj) (fun u hu => h1x u (List.mem_of_mem_drop hu))
  have hz1l := hown1.1
  obtain ⟨W2, hW2⟩ : ∃ W2, W2 = W1.setCells g (i * 1) news := ⟨_, rfl⟩
  have p2 := own_puts news (i * 1) hown1 (by rw [hz1l, hnl]; omega)
  rw [← hW2] at p2
  obtain ⟨hown2, hg2⟩ := p2
  have hcp2 : ∀ ty dc, (Builtin.copy_ #[45, 45] ty #[.slice (some ⟨g, i * 1, none⟩) (n + m - i) dc, .slice (some ⟨r, 0, none⟩) m m]).run Try.prog W1 = .ok (goInt ((Nat.min m (n + m - i) : Nat) : Int)) W2 := fun ty dc => by
    rw [hW2]
    exact run_copy_own W1 _ _ ty 28 1 base g (n + m) cap i _ _ dc ⟨r, 0, none⟩ m m _ news hown1 Try.underlying45 hsz rfl (by rw [hnl]; omega) (by rw [hnl]; simp only [Nat.min_def]; split <;> omega) (fun j u hj => by
      rw [insAdd, Nat.zero_add]
      exact hg1.cell (by simpa using hnews j u hj) (by simpa using hrg)) h1
  have hfin : InsRowEnds base (.slice (some ⟨g, 0, none⟩) n cap) n m xs news i w (.returned (.slice (some ⟨g, 0, none⟩) (n + m) cap)) W2 := by
    refine ⟨_, rfl, ?_, ?_⟩
    · have e : puts (puts (xs ++ ys) ((i + m) * 1) (xs.drop (i * 1))) (i * 1) news = xs.take (i * 1) ++ news ++ xs.drop (i * 1) := by
        have a0 : (xs ++ ys).drop ((i + m) * 1 + (xs.drop (i * 1)).length) = [] := List.drop_of_length_le (by rw [hzl, hdl]; omega)
        have a1 : ((xs ++ ys).take ((i + m) * 1)).length = (i + m) * 1 := by rw [List.length_take, hzl]; omega
        have a2 : puts (xs ++ ys) ((i + m) * 1) (xs.drop (i * 1)) = (xs ++ ys).take ((i + m) * 1) ++ xs.drop (i * 1) := by
          unfold puts
          rw [a0, List.append_nil]
        rw [a2]
        unfold puts
        have a3 : ((xs ++ ys).take ((i + m) * 1) ++ xs.drop (i * 1)).take (i * 1) = xs.take (i * 1) := by
          rw [List.take_append_of_le_length (by rw [a1]; omega), List.take_take, Nat.min_eq_left (by omega), List.take_append_of_le_length (by rw [hxl]; omega)]
        have a4 : ((xs ++ ys).take ((i + m) * 1) ++ xs.drop (i * 1)).drop (i * 1 + news.length) = xs.drop (i * 1) := List.drop_left' (by rw [a1, hnl]; omega)
        rw [a3, a4]
      rw [← e]
      exact hown2
    · exact ⟨hg2.os.trans hg1.os, hg2.tape.trans hg1.tape, hg2.output.trans hg1.output, Nat.le_trans hg1.size hg2.size, fun k hk hne => (hg2.block k (Nat.lt_of_lt_of_le hk hg1.size) hne).trans (hg1.block k hk hne)⟩
  have hz1' : ¬ ((m : Int) = 0) := by omega
  have hz2' : ¬ ((i : Int) = (n : Int)) := by omega
  have hw1 : IntKind.i64.wrap ((n : Int) + (m : Int)) = (n : Int) + (m : Int) := by rw [IntKind.wrap_i64]; omega
  have hw3 : IntKind.i64.wrap ((i : Int) + (m : Int)) = (i : Int) + (m : Int) := by rw [IntKind.wrap_i64]; omega
  have hgt : ¬ (cap : Int) < (n : Int) + (m : Int) := by omega
  have hnm : (n : Int) + (m : Int) ≤ cap := by omega
  have hin : i ≤ n := by omega
  have hin' : (i : Int) ≤ (n : Int) := by omega
  have hinm : (i : Int) ≤ (n : Int) + (m : Int) := by omega
  have hmi : (i : Int) + (m : Int) ≤ (n : Int) + (m : Int) := by omega
  have hb1 : (0 : Int) ≤ (i : Int) + (m : Int) := by omega
  have hb2 : (0 : Int) ≤ (n : Int) + (m : Int) := by omega
  have htn : ((i : Int) + (m : Int)).toNat = i + m := by omega
  have htn2 : ((n : Int) + (m : Int)).toNat = n + m := by omega
  have hcc2 : ¬ (cap = i) := by omega
  have hcc3 : ¬ (cap = i + m) := by omega
  simp only [Nat.mul_one] at hcp1 hcp2 hov
  have hF := Lib.hid hfin
  obtain ⟨GOAL, hG⟩ : ∃ G, G = InsRowEnds base (.slice (some ⟨g, 0, none⟩) n cap) n m xs news i w := ⟨_, rfl⟩
  rw [← hG]
  have hG := Lib.hid hG
  have mixed : Try.prog.follows Departure.mixedOrders = true := by kernel_rfl
  clear hown hfin hownF hown1 hown2 hW1 hW2 hnews h1 h1x hdl hnl hxl hyl hzl hz1l hg1 hg2 hi0 hz0 hsz hsof hrb hsB
  go_enter Try.func52, Try.ntmps52
  go_wp2_with (simp only [hov])
  go_region_law_o (refine step_copy_run rfl _ _ 45 45 rfl _ _ (by simp [Act.eval, Act.put]) (by simp [Act.eval, Act.put]) (hcp1 _ _ _) ?_)
  go_wp2_with (at_builtin; refine wpList_copy_run _ rfl _ _ 45 45 rfl _ _ rfl rfl (hcp2 _ _) ?_)
  rw [hG.out]
  exact hF.out
/-- slices.Insert in an own row -/
theorem insertRow_c (base : Nat) (v : Value) (n i m r : Nat) (Tr : TypeId) (xs news : List Value) (w : World) (hown : w.ownsRow base 28 1 v n xs) (hb : base ≤ w.heap.size) (hi : i ≤ n) (hn : n ≤ 1000000) (hm0 : 0 < m) (hm : m ≤ 1000000)
    (hnl : news.length = m * 1) (hrg : v.ownBlock ≠ some r) (hrb : w.heap[r]? = some (.cells news.toArray Tr)) (h1 : ∀ u ∈ news, u.oneCell' = true) (h1x : ∀ u ∈ xs, u.oneCell' = true) :
    Calls Try.prog 52 #[v, .int .i64 (i : Int), .slice (some ⟨r, 0, none⟩) m m] w (InsRowEnds base v n m xs news i w) := by
  have hnews : ∀ j u, news[j]? = some u → w.cell? ⟨r, j, none⟩ = some u := fun j u hu => by
    rw [cell_of_row w r j _ Tr (0, 0) hrb]
    simpa using hu
  rcases Nat.lt_or_eq_of_le hi with hlt | rfl
  · obtain ⟨g, cap, rfl, hnc, hcm⟩ : ∃ g cap, v = .slice (some ⟨g, 0, none⟩) n cap ∧ n ≤ cap ∧ cap ≤ maxLen := by
      rcases hown.2 with ⟨hv, hn⟩ | ⟨gb, cap, cur, hv, _, _, hnc, hcm, _⟩
      · omega
      · exact ⟨gb, cap, hv, hnc, hcm⟩
    by_cases hroom : n + m ≤ cap
    · exact insShiftRow_c base g n cap i m r Tr xs news w hown hlt hn hm0 hm hroom hcm hnl (fun e => hrg (by rw [e]; rfl)) hrb h1 h1x
    · exact insGrowRow_c base g n cap i m r xs news w hown hb hlt hn hm0 hm (by omega) hnc hnl (Array.getElem?_eq_some_iff.1 hrb).1 hnews h1 h1x
  · exact insEndRow_c base v i m r xs news w hown hb hn hm0 hm hnl hnews h1
end Go.Proofs.Ytipjelkdbbhcpaa
