/-
  FrameLong's walk.
-/
import Derived.Test.YtijkliffgihglaaFrE
import Derived.Laws.MakeOwn
set_option linter.unusedSimpArgs false
set_option linter.unusedVariables false
namespace Go.Proofs.Ytijkliffgihglaa
open Go.RowKit

def longL (n : Int) : List UInt8 := [byte (n / 16777216 % 256), byte (n / 65536 % 256), byte (n / 256 % 256), byte (n % 256)]
theorem byte_nat (n : Int) (h0 : 0 ≤ n) : ((byte n).toNat : Int) = n % 256 := by
  unfold byte
  rw [UInt8.toNat_ofNat']
  omega
theorem wide_long (n : Nat) (h : n < 4294967296) : wide (longL n) = n := by
  unfold longL
  rw [wide4]
  have e0 := byte_nat ((n : Int) / 16777216 % 256) (by omega)
  have e1 := byte_nat ((n : Int) / 65536 % 256) (by omega)
  have e2 := byte_nat ((n : Int) / 256 % 256) (by omega)
  have e3 := byte_nat ((n : Int) % 256) (by omega)
  omega
theorem frameL_long (s : List UInt8) : frameL s = longL s.length ++ s := rfl
theorem longL_len (n : Int) : (longL n).length = 4 := rfl

theorem parse_frame (s rest : List UInt8) (k : Nat) (hs : s.length ≤ 30000) (hk : (frameL s ++ rest).length ≤ k) :
    ∃ j, rest.length ≤ j ∧ parse k (frameL s ++ rest) = (s :: (parse j rest).1, (parse j rest).2) := by
  have hlen := frameL_len s
  rw [List.length_append] at hk
  have hw : wide ((frameL s ++ rest).take 4) = s.length := by
    rw [frameL_long, show (longL s.length ++ s ++ rest).take 4 = longL s.length from by simp [longL], wide_long _ (by omega)]
  obtain ⟨j, hj, hp⟩ := parse_one (h := frameL s ++ rest) (k := k) (by rw [List.length_append]; omega) (by rw [hw]; omega) (by rw [hw, List.length_append]; omega) (by rw [List.length_append]; omega)
  refine ⟨j, by omega, ?_⟩
  rw [hp, hw]
  have h1 : ((frameL s ++ rest).drop 4).take s.length = s := by rw [frameL_long]; simp [longL]
  have h2 : (frameL s ++ rest).drop (4 + s.length) = rest := by rw [show 4 + s.length = (frameL s).length by omega]; simp
  rw [h1, h2]
theorem long_take (K : Nat) (more : List UInt8) : (longL K ++ more).take 4 = longL K := by simp [longL]
theorem long_cut (K : Nat) (more : List UInt8) (k : Nat) (hK : K ≤ 30000) (hm : more.length < K) (hk : (longL K ++ more).length ≤ k) : parse k (longL K ++ more) = ([], longL K ++ more, false) := by
  have hl : (longL K ++ more).length = 4 + more.length := by rw [List.length_append, longL_len]
  refine parse_cut (by omega) ?_ ?_ hk
  · rw [long_take, wide_long _ (by omega)]; omega
  · rw [long_take, wide_long _ (by omega)]; omega
theorem long_big (K : Nat) (more : List UInt8) (k : Nat) (hK : 30000 < K) (hK' : K < 4294967296) (hk : (longL K ++ more).length ≤ k) : parse k (longL K ++ more) = ([], [], true) := by
  have hl : (longL K ++ more).length = 4 + more.length := by rw [List.length_append, longL_len]
  refine parse_big (by omega) ?_ hk
  rw [long_take, wide_long _ hK']; omega

theorem feedL (rb : Nat) (s more : List UInt8) (K : Nat) (w : World) (hr : Rd w rb [] 0) (hs : s.length ≤ 300) (hm : more.length ≤ 300) (rst : List UInt8) (b : Bool) (E : Int) (hE : Hid (E = errOf b)) (hp : ∀ k, (longL K ++ more).length ≤ k → parse k (longL K ++ more) = ([], rst, b)) :
    Calls Try.prog 15 #[.pointer (some ⟨rb, 0, none⟩), .string (st (frameL s ++ (longL K ++ more)))] w fun e w' =>
    ∃ g cap, e = .returned (.tuple #[.slice (some ⟨g, 0, none⟩) 1 cap, .int .i64 E]) ∧ w.heap.size ≤ g ∧ g < w'.heap.size ∧ w'.cell? ⟨g, 0, none⟩ = some (.string (st s)) ∧ Rd w' rb rst E ∧ w.grownBy w' (some rb) := by
  have hE := hE.out
  refine (feed_c rb [] _ w hr (by simp [frameL_len, longL_len]; omega)).mono ?_
  rintro e w' ⟨v, fs, r, b', hp', rfl, hown, hrd, hg⟩
  simp only [List.nil_append] at hp'
  obtain ⟨j, hj, hq⟩ := parse_frame s (longL K ++ more) _ (by omega) (Nat.le_refl _)
  rw [hq, hp j hj] at hp'
  cases hp'
  obtain ⟨ao, cap, rfl, _, hk⟩ := owns_read hown
  obtain ⟨g, rfl, hbg, hl, hc⟩ := hk 0 (.string (st s)) rfl
  rw [← hE] at hrd ⊢
  exact ⟨g, cap, rfl, hbg, hl, hc, hrd, hg⟩
theorem feedL2 (rb : Nat) (more : List UInt8) (K : Nat) (w : World) (hr : Rd w rb (longL K ++ more) 0) (hm : more.length ≤ 300) (hK : K ≤ 30000) (hK' : 600 < K) :
    Calls Try.prog 15 #[.pointer (some ⟨rb, 0, none⟩), .string (st more)] w fun e w' =>
    ∃ ao cap, e = .returned (.tuple #[.slice ao 0 cap, .int .i64 0]) ∧ w'.cell? ⟨rb, 0, none⟩ = some (.string (st (longL K ++ (more ++ more)))) ∧ w.grownBy w' (some rb) := by
  refine (feed_c rb _ more w hr (by simp [longL_len]; omega)).mono ?_
  rintro e w' ⟨v, fs, r, b', hp', rfl, hown, hrd, hg⟩
  rw [List.append_assoc, long_cut K (more ++ more) _ hK (by rw [List.length_append]; omega) (Nat.le_refl _)] at hp'
  cases hp'
  obtain ⟨ao, cap, rfl, _, hk⟩ := owns_read hown
  exact ⟨ao, cap, rfl, hrd.held, hg⟩

theorem and3 (n : Int) : ∃ j : Nat, bits .and .i64 n 3 = (j : Int) ∧ j < 4 := by
  have e : bits .and .i64 n 3 = IntKind.i64.wrap ((BitVec.ofInt 64 n &&& BitVec.ofInt 64 3).toNat : Int) := rfl
  have h3 : (BitVec.ofInt 64 n &&& BitVec.ofInt 64 3).toNat < 4 := by
    rw [BitVec.toNat_and]
    exact Nat.lt_of_le_of_lt Nat.and_le_right (by decide)
  exact ⟨_, e.trans (wrap_i64_id _ (by omega) (by omega)), h3⟩
theorem Try.info5 : (Try.prog.info? 5).map (fun i => (i.zero, i.size, i.bytes)) = some (some (.int .u8 0), 1, 1) := by kernel_rfl
abbrev noughts (K : Nat) : Array Value := ((List.replicate K (0 : Int)).map (Value.int .u8)).toArray
theorem make_run (w : World) (K : Nat) (hK : K ≤ 100000) :
    (Instr.makeSlice 46 (.int .i64 K) (.int .i64 K)).run Try.prog w = .ok (.slice (some ⟨w.heap.size, 0, none⟩) K K) (w.alloc (.cells (noughts K) 5)) := by
  obtain ⟨i, hi, hz0, hz1, hz2⟩ := info_parts Try.info5
  have h := run_makeSlice (P := Try.prog) (w := w) 46 5 i (.int .u8 0) Try.underlying46 hi hz0 .i64 .i64 K K (by omega) (by omega) (by rw [hz1]; omega) (by rw [hz2]; omega) (by omega)
  rw [hz1] at h
  simp only [Int.toNat_natCast, Nat.mul_one, Value.cells] at h
  have hc : madeCells #[.int .u8 0] K = noughts K := by
    apply Array.toList_inj.1
    rw [toList_madeCells_one]
    simp [noughts]
  rw [hc] at h
  exact h
theorem conv_noughts (w : World) (T K : Nat) :
    (convert 46 9 (.slice (some ⟨w.heap.size, 0, none⟩) K K)).run Try.prog (w.alloc (.cells (noughts K) T)) = .ok (.string (st (List.replicate K 0))) (w.alloc (.cells (noughts K) T)) := by
  have h := conv_new w T (List.replicate K (0 : Int))
  rw [List.length_replicate] at h
  have e : (List.replicate K (0 : Int)).map byte = List.replicate K 0 := by simp [byte]
  rw [e] at h
  exact h

theorem grown_cell {w w' : World} {rb g : Nat} (h : w.grownBy w' (some rb)) (hl : g < w.heap.size) (hne : rb ≠ g) (k : Nat) : w'.cell? ⟨g, k, none⟩ = w.cell? ⟨g, k, none⟩ :=
  World.cell?_of_block (a := ⟨g, k, none⟩) (h.block g hl (by simpa using hne.symm))
theorem rd_alloc2 (w : World) (o : Obj) (T : TypeId) : Rd ((w.alloc o).alloc (.cells #[.string (st []), .int .i64 0] T)) (w.heap.size + 1) [] 0 := by
  have h := rd_alloc (w.alloc o) T
  rwa [show (w.alloc o).heap.size = w.heap.size + 1 from by simp] at h

theorem two_feeds {w w1 w2 w3 : World} {o1 o2 : Obj} (hb : Below w.heap.size w w1) (hg1 : ((w1.alloc o1).alloc o2).grownBy w2 (some (w1.heap.size + 1))) (hg2 : w2.grownBy w3 (some (w1.heap.size + 1))) : Below w.heap.size w w3 := by
  have h0 := hb.size
  exact below_grown (below_grown ((hb.alloc h0 o1).alloc (by simp; omega) o2) (by omega) hg1) (by omega) hg2

theorem one_feed {w w1 w2 : World} {o1 o2 : Obj} (hb : Below w.heap.size w w1) (hg1 : ((w1.alloc o1).alloc o2).grownBy w2 (some (w1.heap.size + 1))) : Below w.heap.size w w2 := by
  have h0 := hb.size
  exact below_grown ((hb.alloc h0 o1).alloc (by simp; omega) o2) (by omega) hg1
theorem drewN_below {w w1 : World} (hb : Below w.heap.size w w1) (n : Nat) : Below w.heap.size w (w1.drewN n) := ⟨hb.os, hb.tape, hb.output, hb.size, hb.block⟩

set_option maxHeartbeats 4000000 in
theorem frameLong_walk (s more : List UInt8) (n : Int) (w : World) (hl : s.length ≤ maxLen) (hm : more.length ≤ maxLen) : Calls Try.prog 5 #[.string (st s), .string (st more), .int .i64 n] w (TrueEnds w) := by
  have c1 := fun w => few_c s w hl
  have c2 := fun w => few_c more w hm
  have ht : (s.take 300).length ≤ 300 := by simp; omega
  have hu : (more.take 300).length ≤ 300 := by simp; omega
  generalize s.take 300 = t at *
  generalize more.take 300 = u at *
  obtain ⟨j, hj, hj4⟩ : ∃ j : Nat, bits .and .i64 n 3 = (j : Int) ∧ j < 4 := and3 n
  obtain ⟨K, hK, hK1, hK2⟩ : ∃ K : Nat, 29999 + (j : Int) = (K : Int) ∧ 29999 ≤ K ∧ K ≤ 30002 := ⟨29999 + j, by omega, by omega, by omega⟩
  have c3 := fun w => put_frame_c t w (by omega)
  have hcv := fun w => conv_new w 5 [(K : Int) / 16777216, (K : Int) / 65536, (K : Int) / 256, (K : Int) % 256]
  simp only [List.length_cons, List.length_nil, List.map_cons, List.map_nil, Nat.zero_add, Nat.reduceAdd] at hcv
  have hL : ([byte ((K : Int) / 16777216), byte ((K : Int) / 65536), byte ((K : Int) / 256), byte ((K : Int) % 256)] : List UInt8) = longL K := by
    unfold longL
    rw [show (K : Int) / 16777216 % 256 = (K : Int) / 16777216 by omega, show (K : Int) / 65536 % 256 = (K : Int) / 65536 by omega, show (K : Int) / 256 % 256 = (K : Int) / 256 by omega]
  rw [hL] at hcv
  clear hL
  have hmk := fun w => make_run w K (by omega)
  have hcz := fun w => conv_noughts w 5 K
  have hs1 : ¬ 9223372036854775807 < (frameL t).length + (longL (K : Int)).length := by rw [frameL_len, longL_len]; omega
  have hs2 : ¬ 9223372036854775807 < (frameL t).length + (longL (K : Int)).length + u.length := by rw [frameL_len, longL_len]; omega
  have hw1 : IntKind.i64.wrap (K : Int) = K := wrap_i64_id _ (by omega) (by omega)
  by_cases hK3 : K ≤ 30000
  · have c5 := fun w => put_frame_c (List.replicate K 0) w (by simpa using hK3)
    have c6 := fun w rb hr => feedL rb t u K w hr ht hu (longL K ++ u) false 0 rfl (fun k h => long_cut K u k hK3 (by omega) h)
    have c8 := fun w rb hr => feedL2 rb u K w hr hu hK3 (by omega)
    have hfl : ((frameL (List.replicate K 0)).length : Int) = (K : Int) + 4 := by rw [frameL_len, List.length_replicate]; omega
    have hhl : ((longL K ++ (u ++ u)).length : Int) = 4 + 2 * u.length := by rw [List.length_append, List.length_append, longL_len]; omega
    have hk : (K : Int) ≤ 30000 := by omega
    have hw2 : IntKind.i64.wrap ((K : Int) + 4) = (K : Int) + 4 := wrap_i64_id _ (by omega) (by omega)
    have hw3 : IntKind.i64.wrap (2 * (u.length : Int)) = 2 * (u.length : Int) := wrap_i64_id _ (by omega) (by omega)
    have hw4 : IntKind.i64.wrap (4 + 2 * (u.length : Int)) = 4 + 2 * (u.length : Int) := wrap_i64_id _ (by omega) (by omega)
    go_enter Try.func5, Try.ntmps5
    go_wp2_with (first | ((with_reducible refine (c1 _).mono ?_); rintro e w1 ⟨rfl, rfl⟩) | ((with_reducible refine (c3 _).mono ?_); rintro e w1 ⟨rfl, hb⟩; (first | ((with_reducible obtain ⟨p, hw''⟩ := In.of2 p hb); subst hw'') | (obtain ⟨p, hw''⟩ := In.of hb; subst hw''))) | ((with_reducible refine (c2 _).mono ?_); rintro e w2 ⟨rfl, rfl⟩) |
      ((with_reducible refine (c6 _ _ (rd_alloc2 _ _ _)).mono ?_); rintro e w2 ⟨g, cap, rfl, hgb, hgl, hgc, hrd, hg1⟩) |
      ((with_reducible refine (c8 _ _ hrd).mono ?_); rintro e w3 ⟨ao, cap2, rfl, hheld, hg2⟩; have hne : p.w.heap.size + 1 < g := (by simp at hgb; omega); have hgc3 := (grown_cell hg2 hgl (by omega) 0).trans hgc; have hgl3 := Nat.lt_of_lt_of_le hgl hg2.size; have hlt3 := Nat.lt_of_lt_of_le hrd.lt hg2.size; have hbw3 := two_feeds hb hg1 hg2; clear hg1 hg2 hb hrd hgc hgl hgb) |
      ((with_reducible refine (c5 _).mono ?_); rintro e w4 ⟨rfl, hb4⟩; (first | ((with_reducible obtain ⟨p, hw''⟩ := In.of2 p hb4); subst hw'') | (obtain ⟨p, hw''⟩ := In.of hb4; subst hw''))))
    have c9 : ∀ w : World, Calls Try.prog 14 #[.string (st s)] w fun e w' => e = .returned (.string (st t)) ∧ Below w.heap.size w w' := fun w => (c1 w).mono fun e w' ⟨h1, h2⟩ => ⟨h1, h2 ▸ Below.refl _ _⟩
    have hgl4 : g < w3.heap.size + 1 := by omega
    have hlt4 := Nat.lt_succ_of_lt hlt3
    have hgc4 : ∀ o, (w3.alloc o).cell? ⟨g, 0, none⟩ = some (.string (st t)) := fun o => (World.cell?_of_block (a := ⟨g, 0, none⟩) (Below.heap_alloc w3 o g hgl3)).trans hgc3
    have hheld4 := fun o => (World.cell?_of_block (a := ⟨_, 0, none⟩) (Below.heap_alloc w3 o _ hlt3)).trans hheld
    have ca : ∀ w : World, Calls Try.prog 17 #[] w fun e w' => e = .returned (.bool true) ∧ Below w.heap.size w w' := awake_c
    refine wp_region_flow [] (by kernel_rfl) (by kernel_rfl) ?_
    repeat ((refine wpFlow_steps (fun K hK => ?_); go_simp; first | (with_reducible refine hK _ ?_; clear hK K) | (apply Exists.intro; (with_reducible refine ⟨fun _ => ⟨?_, _, rfl⟩, hK _ ?_⟩); (· exact rfl); clear hK K) | (apply Exists.intro; (with_reducible refine ⟨fun _ => ⟨_, rfl⟩, hK _ ?_⟩); clear hK K) | (apply Exists.intro; (with_reducible refine ⟨fun _ => ?_, hK _ ?_⟩); (· (with_reducible (first | exact ca _ | exact c9 _))); clear hK K)))
    (refine wpFlow_nil ?_; rintro w1 ⟨q0, hq0⟩; have hb := In.h q0; rw [← hq0] at hb; clear hq0 q0; (first | ((with_reducible obtain ⟨p, hw''⟩ := In.of2 p hb); subst hw'') | (obtain ⟨p, hw''⟩ := In.of hb; subst hw'')); go_simp; intros)
    go_wp2_with (fail)
    have c7 := held_c _ (longL K ++ (u ++ u)) p.w ((In.cell p _ (Nat.lt_of_lt_of_eq hlt4 (by simp))).trans (hheld4 _)) (by omega)
    rw [hhl] at c7
    go_wp2_with (first | ((with_reducible refine c7.mono ?_); rintro e w1 ⟨rfl, rfl⟩) | ((with_reducible refine (c2 _).mono ?_); rintro e w1 ⟨rfl, rfl⟩))
    go_ret
    exact ⟨rfl, p.back (hbw3.alloc hbw3.size _)⟩
  · have hk : ¬ (K : Int) ≤ 30000 := by omega
    have c5 := fun w => put_long_c (List.replicate K 0) w (by simpa using Nat.lt_of_not_le hK3) (by rw [List.length_replicate]; unfold maxLen; omega)
    have c6 := fun w rb hr => feedL rb t u K w hr ht hu [] true 3 rfl (fun k h => long_big K u k (by omega) (by omega) h)
    have c8 := fun w rb hr => feed_err_c rb [] u w hr
    go_enter Try.func5, Try.ntmps5
    go_wp2_with (first | ((with_reducible refine (c1 _).mono ?_); rintro e w1 ⟨rfl, rfl⟩) | ((with_reducible refine (c3 _).mono ?_); rintro e w1 ⟨rfl, hb⟩; (first | ((with_reducible obtain ⟨p, hw''⟩ := In.of2 p hb); subst hw'') | (obtain ⟨p, hw''⟩ := In.of hb; subst hw''))) | ((with_reducible refine (c2 _).mono ?_); rintro e w2 ⟨rfl, rfl⟩) |
      ((with_reducible refine (c6 _ _ (rd_alloc2 _ _ _)).mono ?_); rintro e w2 ⟨g, cap, rfl, hgb, hgl, hgc, hrd, hg1⟩) |
      ((with_reducible refine (c8 _ _ hrd).mono ?_); rintro e w3 ⟨rfl, nq, hnq⟩; have hgc3 : w3.cell? ⟨g, 0, none⟩ = some (.string (st t)) := (by rw [hnq]; exact hgc); have hgl3 : g < w3.heap.size := (by rw [hnq]; exact hgl); have hlt3 : p.w.heap.size + 1 < w3.heap.size := (by rw [hnq]; exact hrd.lt); have hbw3 : Below w.heap.size w w3 := (by rw [hnq]; exact drewN_below (one_feed hb hg1) nq); have hheld : w3.cell? ⟨p.w.heap.size + 1, 0, none⟩ = some (.string (st [])) := (by rw [hnq]; exact hrd.held); clear hnq hg1 hb hrd hgc hgl hgb) |
      ((with_reducible refine (c5 _).mono ?_); rintro e w4 ⟨rfl, rfl⟩))
    have hgl4 : g < w3.heap.size + 1 := by omega
    have hlt4 := Nat.lt_succ_of_lt hlt3
    have hgc4 : ∀ o, (w3.alloc o).cell? ⟨g, 0, none⟩ = some (.string (st t)) := fun o => (World.cell?_of_block (a := ⟨g, 0, none⟩) (Below.heap_alloc w3 o g hgl3)).trans hgc3
    have hheld4 := fun o => (World.cell?_of_block (a := ⟨_, 0, none⟩) (Below.heap_alloc w3 o _ hlt3)).trans hheld
    have ca : ∀ w : World, Calls Try.prog 17 #[] w fun e w' => e = .returned (.bool true) ∧ Below w.heap.size w w' := awake_c
    have c9 : ∀ w : World, Calls Try.prog 14 #[.string (st s)] w fun e w' => e = .returned (.string (st t)) ∧ Below w.heap.size w w' := fun w => (c1 w).mono fun e w' ⟨h1, h2⟩ => ⟨h1, h2 ▸ Below.refl _ _⟩
    refine wp_region_flow [] (by kernel_rfl) (by kernel_rfl) ?_
    repeat ((refine wpFlow_steps (fun K hK => ?_); go_simp; first | (with_reducible refine hK _ ?_; clear hK K) | (apply Exists.intro; (with_reducible refine ⟨fun _ => ⟨?_, _, rfl⟩, hK _ ?_⟩); (· exact rfl); clear hK K) | (apply Exists.intro; (with_reducible refine ⟨fun _ => ⟨_, rfl⟩, hK _ ?_⟩); clear hK K) | (apply Exists.intro; (with_reducible refine ⟨fun _ => ?_, hK _ ?_⟩); (· (with_reducible (first | exact ca _ | exact c9 _))); clear hK K)))
    (refine wpFlow_nil ?_; rintro w1 ⟨q0, hq0⟩; have hb := In.h q0; rw [← hq0] at hb; clear hq0 q0; (first | ((with_reducible obtain ⟨p, hw''⟩ := In.of2 p hb); subst hw'') | (obtain ⟨p, hw''⟩ := In.of hb; subst hw'')); go_simp; intros)
    go_wp2_with (fail)
    have c7 := held_c _ [] p.w ((In.cell p _ (Nat.lt_of_lt_of_eq hlt4 (by simp))).trans (hheld4 _)) (by decide)
    go_wp2_with (first | ((with_reducible refine c7.mono ?_); rintro e w1 ⟨rfl, rfl⟩) | ((with_reducible refine (c2 _).mono ?_); rintro e w1 ⟨rfl, rfl⟩))
    go_ret
    exact ⟨rfl, p.back (hbw3.alloc hbw3.size _)⟩
end Go.Proofs.Ytijkliffgihglaa
