
/-
  Pages: Decode of bytes that are no page's.
-/
import Derived.Test.YtgcoepljlkahoaaPgL
import Derived.Test.YtgcoepljlkahoaaPgF
set_option linter.unusedSimpArgs false
set_option linter.unusedVariables false
namespace Go.Proofs.Ytgcoepljlkahoaa
open Go.RowKit

/-- bytes that are a page's -/
def IsPage (s : List UInt8) : Prop := ∃ l, Rises l ∧ usedN l ≤ 512 ∧ (∀ b ∈ l, b.1 ≤ 18446744073709551615) ∧ encL l = s
/-- the records that a page holds while it is read -/
structure HeldP (base g : Nat) (l : List Rec) (w : World) (v : Value) : Prop where
  at_ : PageAt w base g v l (usedN l : Int)
  rise : Rises l
  room : usedN l ≤ 512
  ids : ∀ b ∈ l, b.1 ≤ 18446744073709551615
theorem putR_ids {l : List Rec} {b : Rec} {i : Nat} (h : ∀ x ∈ l, x.1 ≤ 18446744073709551615) (hb : b.1 ≤ 18446744073709551615) : ∀ x ∈ putR l b i, x.1 ≤ 18446744073709551615 := by
  intro x hx
  unfold putR at hx
  split at hx
  · rcases List.mem_or_eq_of_mem_set hx with h1 | h1
    · exact h x h1
    · rw [h1]; exact hb
  · rcases List.mem_append.1 hx with h1 | h1
    · exact h x (List.mem_of_mem_take h1)
    · rcases List.mem_cons.1 h1 with h1 | h1
      · rw [h1]; exact hb
      · exact h x (List.mem_of_mem_drop h1)
theorem wide_two {l : List UInt8} (h : l.length ≤ 2) : wide (l.take 8) < 65536 := by
  have h1 := wide_lt (l.take 8)
  have h2 : (l.take 8).length ≤ 2 := by rw [List.length_take]; omega
  have h3 : 256 ^ (l.take 8).length ≤ 256 ^ 2 := Nat.pow_le_pow_right (by decide) h2
  omega
set_option maxRecDepth 8000 in
theorem decShort_c (s : List UInt8) (w : World) (hs : s.length < 512) : Calls Try.prog 11 #[.string (st s)] w fun e w' => e = .returned (.tuple #[.pointer none, .int .i64 4]) ∧ Below w.heap.size w w' := by
  have hl : (s.length : Int) < 512 := by omega
  go_enter Try.func11, Try.ntmps11
  go_wp2_with fail
  exact bodyPost_ret (v := .tuple #[.pointer none, .int .i64 4]) (by simp only [results, Try.results11]; go_simp) rfl ⟨rfl, Below.refl _ _⟩
set_option maxRecDepth 8000 in
theorem decLong_c (s : List UInt8) (w : World) (hs : 512 < s.length) : Calls Try.prog 11 #[.string (st s)] w fun e w' => e = .returned (.tuple #[.pointer none, .int .i64 5]) ∧ Below w.heap.size w w' := by
  have hl : (512 : Int) < s.length := by omega
  have hl2 : ¬ (s.length : Int) < 512 := by omega
  go_enter Try.func11, Try.ntmps11
  go_wp2_with fail
  exact bodyPost_ret (v := .tuple #[.pointer none, .int .i64 5]) (by simp only [results, Try.results11]; go_simp) rfl ⟨rfl, Below.refl _ _⟩
def BadEnds (w : World) (e : Ending) (w' : World) : Prop := e = .returned (.tuple #[.pointer none, .int .i64 6]) ∧ Below w.heap.size w w'
set_option maxRecDepth 8000 in
set_option maxHeartbeats 8000000 in
theorem decBad_c (s : List UInt8) (w : World) (hs : s.length = 512) (hbad : ¬ IsPage s) :
    Calls Try.prog 11 #[.string (st s)] w (BadEnds w) := by
  obtain ⟨GOAL, hG⟩ : ∃ G, G = BadEnds w := ⟨_, rfl⟩
  rw [← hG]
  have hGo := Lib.hid hG
  clear hG
  have hbadh := Lib.hid hbad
  clear hbad
  have hDs : (s.length : Int) = 512 := by omega
  have hDs2 := hs
  obtain ⟨n, hn⟩ : ∃ n, n = wide ((s.take 2).take 8) := ⟨_, rfl⟩
  have hn2 : n < 65536 := by rw [hn]; exact wide_two (by rw [List.length_take]; omega)
  have cw : ∀ w, Calls Try.prog 24 #[.string (st (s.take 2))] w fun e w'' => e = .returned (.int .u64 (n : Int)) ∧ Below w.heap.size w w'' := fun w => by
    rw [hn]
    exact below_of_same (wide_c (s.take 2) w (by rw [List.length_take]; unfold maxLen; omega))
  clear hn
  have hw64 : IntKind.i64.wrap (n : Int) = n := by rw [IntKind.wrap_i64]; omega
  go_enter Try.func11, Try.ntmps11
  go_upto_region 5 with fail
  (refine wp_region_rel_at (7) [16, 4] [] (by kernel_rfl) (by kernel_rfl) (by kernel_rfl) ?_; (simp only [List.take_succ_cons, List.take_zero, List.drop_succ_cons, List.drop_zero]))
  (with_reducible refine wpRel_fact [] (16) ((NewAt w.heap.size)) (by kernel_rfl) rfl rfl ((NewAt.steady _)) (by first | exact rfl | go_simp) (fun p => ?_) ?_)
  · (try simp only [pickR, pickR_nil, fillR, List.contains_cons, List.contains_nil, Nat.reduceBEq, Bool.or_false, Bool.or_true, Bool.true_or, Bool.false_or, if_true, if_false, Bool.false_eq_true])
    go_wp2_with ((with_reducible refine (new_c w.heap.size p.w p.h.size).mono ?_); rintro e w3 ⟨rfl, hP, hlt, hb3⟩)
    exact ⟨fun h => (nomatch h), rfl, rfl, hb3, _, rfl, hP⟩
  ((with_reducible refine wpRel_none (by kernel_rfl) (by kernel_rfl) ?_); intro K hK; go_simp; first | (with_reducible refine hK _ ?_; clear hK K) | (apply Exists.intro; (with_reducible refine ⟨fun _ => ⟨?_, _, rfl⟩, hK _ ?_⟩); (· exact rfl); clear hK K) | (apply Exists.intro; (with_reducible refine ⟨fun _ => ?_, hK _ ?_⟩); (· (with_reducible (exact cw _))); clear hK K))
  ((with_reducible refine wpRel_none (by kernel_rfl) (by kernel_rfl) ?_); intro K hK; go_simp; first | (with_reducible refine hK _ ?_; clear hK K) | (apply Exists.intro; (with_reducible refine ⟨fun _ => ⟨?_, _, rfl⟩, hK _ ?_⟩); (· exact rfl); clear hK K) | (apply Exists.intro; (with_reducible refine ⟨fun _ => ?_, hK _ ?_⟩); (· (with_reducible (exact cw _))); clear hK K))
  ((with_reducible refine wpRel_none (by kernel_rfl) (by kernel_rfl) ?_); intro K hK; go_simp; first | (with_reducible refine hK _ ?_; clear hK K) | (apply Exists.intro; (with_reducible refine ⟨fun _ => ⟨?_, _, rfl⟩, hK _ ?_⟩); (· exact rfl); clear hK K) | (apply Exists.intro; (with_reducible refine ⟨fun _ => ?_, hK _ ?_⟩); (· (with_reducible (exact cw _))); clear hK K))
  ((with_reducible refine wpRel_none (by kernel_rfl) (by kernel_rfl) ?_); intro K hK; go_simp; first | (with_reducible refine hK _ ?_; clear hK K) | (apply Exists.intro; (with_reducible refine ⟨fun _ => ⟨?_, _, rfl⟩, hK _ ?_⟩); (· exact rfl); clear hK K) | (apply Exists.intro; (with_reducible refine ⟨fun _ => ?_, hK _ ?_⟩); (· (with_reducible (exact cw _))); clear hK K))
  (with_reducible refine wpRel_fact [16] (4) ((NewAt w.heap.size)) (by kernel_rfl) rfl rfl ((NewAt.steady _)) (by first | exact rfl | go_simp) (fun p => ?_) ?_)
  · (try simp only [pickR, pickR_nil, fillR, List.contains_cons, List.contains_nil, Nat.reduceBEq, Bool.or_false, Bool.or_true, Bool.true_or, Bool.false_or, if_true, if_false, Bool.false_eq_true])
    rintro u ⟨g, rfl, hP⟩
    go_wp2_with fail
    exact ⟨fun h => (nomatch h), rfl, rfl, Below.refl _ _, _, rfl, hP⟩
  ((with_reducible refine wpRel_none (by kernel_rfl) (by kernel_rfl) ?_); intro K hK; go_simp; first | (with_reducible refine hK _ ?_; clear hK K) | (apply Exists.intro; (with_reducible refine ⟨fun _ => ⟨?_, _, rfl⟩, hK _ ?_⟩); (· exact rfl); clear hK K) | (apply Exists.intro; (with_reducible refine ⟨fun _ => ?_, hK _ ?_⟩); (· (with_reducible (fail))); clear hK K))
  ((with_reducible refine wpRel_nil ?_); intro p; (simp only [fillR]))
  rintro u4 ⟨g, rfl, hP⟩ u16 _ _
  go_simp
  have hbp := p.h
  generalize p.w = w1 at *
  clear p cw
  by_cases hn42 : 42 < n
  · have hn42' : (42 : Int) < n := by omega
    go_wp2_with fail
    rw [hGo.out]
    exact ⟨rfl, hbp⟩
  · have hn42' : ¬ (42 : Int) < n := by omega
    go_wp2_with fail
    have hH : HeldP w.heap.size g [] w1 (.slice none 0 0) := ⟨hP, fun i j a b _ h => by simp at h, by simp [usedN, sumL], fun b h => by cases h⟩
    clear hP
    go_loopw [24] (fun a24 wr => ∃ i : Nat, ∃ v l, a24 = .int .i64 i ∧ i ≤ n ∧ Hid (HeldP w.heap.size g l wr v) ∧ Below w.heap.size w wr) (fun c _ => n - (intOf c).toNat)
    case atStart => exact ⟨0, _, [], rfl, Nat.zero_le _, hH, hbp⟩
    case round =>
      clear hH hbp
      obtain ⟨i, v, l, rfl, hi, hH, hbr⟩ := hrel
      by_cases hil : i < n
      · have hil' : (i : Int) < n := by omega
        have m1 : IntKind.i64.wrap ((i : Int) * 12) = (i : Int) * 12 := by rw [IntKind.wrap_i64]; omega
        have m2 : IntKind.i64.wrap (2 + (i : Int) * 12) = 2 + (i : Int) * 12 := by rw [IntKind.wrap_i64]; omega
        have m3 : 2 + (i : Int) * 12 ≤ 512 := by omega
        go_upto_region 12 with fail
        have hT : List.drop (2 + i * 12) (List.take 512 s) = s.drop (2 + 12 * i) := by rw [List.take_of_length_le (by omega), Nat.mul_comm]
        rw [hT]
        have hTl : (s.drop (2 + 12 * i)).length = 512 - (2 + 12 * i) := by rw [List.length_drop, hs]
        have t12 : 12 ≤ ((s.drop (2 + 12 * i)).length : Int) := by omega
        have t10 : 10 ≤ ((s.drop (2 + 12 * i)).length : Int) := by omega
        have t8 : 8 ≤ ((s.drop (2 + 12 * i)).length : Int) := by omega
        clear hT m1 m2 m3 hTl
        generalize s.drop (2 + 12 * i) = T at *
        obtain ⟨id, hid⟩ : ∃ id, id = wide ((T.take 8).take 8) := ⟨_, rfl⟩
        obtain ⟨q, hq⟩ : ∃ q, q = wide (((T.take 10).drop 8).take 8) := ⟨_, rfl⟩
        obtain ⟨r, hr⟩ : ∃ r, r = wide (((T.take 12).drop 10).take 8) := ⟨_, rfl⟩
        have hid2 : id ≤ 18446744073709551615 := by
          have h1 := wide_lt ((T.take 8).take 8)
          have h2 : ((T.take 8).take 8).length ≤ 8 := by rw [List.length_take]; omega
          have h3 : 256 ^ ((T.take 8).take 8).length ≤ 256 ^ 8 := Nat.pow_le_pow_right (by decide) h2
          omega
        have hq2 : q < 65536 := by rw [hq]; exact wide_two (by rw [List.length_drop, List.length_take]; omega)
        have hr2 : r < 65536 := by rw [hr]; exact wide_two (by rw [List.length_drop, List.length_take]; omega)
        have c8 : ∀ w, Calls Try.prog 24 #[.string (st (T.take 8))] w fun e w'' => e = .returned (.int .u64 (id : Int)) ∧ Below w.heap.size w w'' := fun w => by
          rw [hid]
          exact below_of_same (wide_c (T.take 8) w (by rw [List.length_take]; unfold maxLen; omega))
        have cA : ∀ w, Calls Try.prog 24 #[.string (st ((T.take 10).drop 8))] w fun e w'' => e = .returned (.int .u64 (q : Int)) ∧ Below w.heap.size w w'' := fun w => by
          rw [hq]
          exact below_of_same (wide_c ((T.take 10).drop 8) w (by rw [List.length_drop, List.length_take]; unfold maxLen; omega))
        have cB : ∀ w, Calls Try.prog 24 #[.string (st ((T.take 12).drop 10))] w fun e w'' => e = .returned (.int .u64 (r : Int)) ∧ Below w.heap.size w w'' := fun w => by
          rw [hr]
          exact below_of_same (wide_c ((T.take 12).drop 10) w (by rw [List.length_drop, List.length_take]; unfold maxLen; omega))
        clear hid hq hr
        have e1 : IntKind.i64.wrap (q : Int) = q := by rw [IntKind.wrap_i64]; omega
        have e2 : IntKind.i64.wrap (r : Int) = r := by rw [IntKind.wrap_i64]; omega
        have e3 : IntKind.i64.wrap ((q : Int) + r) = (q : Int) + r := by rw [IntKind.wrap_i64]; omega
        have w3i : IntKind.i64.wrap ((i : Int) + 1) = (i : Int) + 1 := by rw [IntKind.wrap_i64]; omega
        (refine wp_region_flow [] (by kernel_rfl) (by kernel_rfl) ?_; (repeat (((with_reducible refine wpFlow_steps ?_); intro K hK; go_simp; first | (with_reducible refine hK _ ?_; clear hK K) | (apply Exists.intro; (with_reducible refine ⟨fun _ => ⟨?_, _, rfl⟩, hK _ ?_⟩); (· exact rfl); clear hK K) | (apply Exists.intro; (with_reducible refine ⟨fun _ => ⟨_, rfl⟩, hK _ ?_⟩); clear hK K) | (apply Exists.intro; (with_reducible refine ⟨fun _ => ?_, hK _ ?_⟩); (· (with_reducible (first | exact cA _ | exact cB _))); clear hK K)))); (refine wpFlow_nil ?_; rintro w1 ⟨q0, hq0⟩; have hb := In.h q0; rw [← hq0] at hb; clear hq0 q0; (first | ((with_reducible obtain ⟨p, hw''⟩ := In.of2 p hb); subst hw'') | (obtain ⟨p, hw''⟩ := In.of hb; subst hw'')); go_simp; intros))
        go_upto_region 13 with fail
        have hbp2 := p.h
        generalize p.w = w5 at *
        clear p cA cB
        have hp5 := hH.out.at_.keep hbp2
        have hb5 : Below w.heap.size w w5 := hbr.trans (hbp2.mono hbr.size)
        by_cases hqr : 512 < q + r
        · have hqr' : (512 : Int) < (q : Int) + r := by omega
          (refine wp_region_rel_at (15) [] [] (by kernel_rfl) (by kernel_rfl) (by kernel_rfl) ?_; (simp only [List.take_succ_cons, List.take_zero, List.drop_succ_cons, List.drop_zero]))
          iterate 15 (((with_reducible refine wpRel_none (by kernel_rfl) (by kernel_rfl) ?_); intro K hK; go_simp; first | (with_reducible refine hK _ ?_; clear hK K) | (apply Exists.intro; (with_reducible refine ⟨fun _ => ⟨?_, _, rfl⟩, hK _ ?_⟩); (· exact rfl); clear hK K) | (apply Exists.intro; (with_reducible refine ⟨fun _ => ?_, hK _ ?_⟩); (· (with_reducible (first | exact c8 _))); clear hK K)))
          ((with_reducible refine wpRel_nil ?_); intro p; (simp only [fillR]))
          intro _
          go_simp
          have hbf := p.back hb5
          go_wp2_with fail
          rw [hGo.out]
          exact ⟨rfl, hbf⟩
        · have hqr' : ¬ (512 : Int) < (q : Int) + r := by omega
          have e5 : (q : Int) + r ≤ 512 := by omega
          have f1 : 0 ≤ (q : Int) + r := by omega
          have f2 : (q : Int) ≤ (q : Int) + r := by omega
          have f3 : ((q : Int) + r).toNat = q + r := by omega
          have hrm := hH.out.room
          have cP := fun p : In w5 => put_c w.heap.size g v l (id, (s.take (q + r)).drop q) p.w (hp5.keep p.h) (Nat.le_trans hb5.size p.h.size) hH.out.rise hrm (by show ((s.take (q + r)).drop q).length ≤ _; rw [List.length_drop, List.length_take]; omega)
          unfold PutAny at cP
          dsimp only at cP
          have hrm := Lib.hid hrm
          clear hp5 hbp2
          (refine wp_region_rel_at (15) [] [] (by kernel_rfl) (by kernel_rfl) (by kernel_rfl) ?_; (simp only [List.take_succ_cons, List.take_zero, List.drop_succ_cons, List.drop_zero]))
          iterate 15 (((with_reducible refine wpRel_none (by kernel_rfl) (by kernel_rfl) ?_); intro K hK; go_simp; first | (with_reducible refine hK _ ?_; clear hK K) | (apply Exists.intro; (with_reducible refine ⟨fun _ => ⟨?_, _, rfl⟩, hK _ ?_⟩); (· exact rfl); clear hK K) | (apply Exists.intro; (with_reducible refine ⟨fun _ => ?_, hK _ ?_⟩); (· (with_reducible (first | exact c8 _))); clear hK K)))
          ((with_reducible refine wpRel_nil ?_); intro p; (simp only [fillR]))
          intro _
          go_simp
          go_wp2_with ((with_reducible refine (cP _).mono ?_); rintro e w6 ⟨hb6, _, j6, hP6, h6⟩; rcases h6 with ⟨hroom6, he6, v6, hp6⟩ | ⟨hno6, he6, _⟩ <;> subst he6)
          · exact ⟨⟨i + 1, v6, putR l (id, (s.take (q + r)).drop q) j6, by simp, hil, Lib.hid ⟨hp6, rises_put hH.out.rise hP6, hroom6, putR_ids hH.out.ids hid2⟩, (p.back hb5).trans hb6⟩, by simp [intOf]; omega⟩
          · rw [hGo.out]
            exact ⟨rfl, (p.back hb5).trans hb6⟩
      · have hil' : ¬ (i : Int) < n := by omega
        have hp := hH.out.at_
        have hc := enc_c _ _ v l _ _ hp hH.out.room
        unfold StrEnds at hc
        have hne : ¬ encL l = s := fun h => hbadh.out ⟨l, hH.out.rise, hH.out.room, hH.out.ids, h⟩
        have hH := Lib.hid hH
        generalize encL l = D at *
        have hne2 : (D == s) = false := by simpa using hne
        go_wp2_with ((with_reducible refine hc.mono ?_); rintro e w2 ⟨rfl, hb2⟩)
        rw [hGo.out]
        exact ⟨rfl, hbr.trans (hb2.mono hbr.size)⟩
end Go.Proofs.Ytgcoepljlkahoaa
