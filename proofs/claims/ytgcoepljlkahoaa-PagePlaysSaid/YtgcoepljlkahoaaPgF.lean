
/-
  Pages: a page's bytes are read again (Decode).
-/
import Derived.Test.YtgcoepljlkahoaaPgE
set_option linter.unusedSimpArgs false
set_option linter.unusedVariables false
namespace Go.Proofs.Ytgcoepljlkahoaa
open Go.RowKit

theorem Rises.take {l : List Rec} (h : Rises l) (n : Nat) : Rises (l.take n) := fun i j a b hij ha hb => by
  rw [List.getElem?_take] at ha hb
  split at ha
  · split at hb
    · exact h i j a b hij ha hb
    · cases hb
  · cases ha
theorem Rises.below {l : List Rec} (h : Rises l) {i : Nat} {b : Rec} (hi : l[i]? = some b) : ∀ x ∈ l.take i, x.1 < b.1 := fun x hx => by
  obtain ⟨j, hj, rfl⟩ := List.mem_iff_getElem.1 hx
  have hj' : j < i := by rw [List.length_take] at hj; omega
  have hl : j < l.length := by rw [List.length_take] at hj; omega
  refine h j i _ b hj' ?_ hi
  simp
theorem used_snoc {l : List Rec} {i : Nat} {b : Rec} (h : l[i]? = some b) : usedN (l.take (i + 1)) = usedN (l.take i) + 12 + b.2.length ∧ l.take (i + 1) = l.take i ++ [b] ∧ usedN (l.take (i + 1)) ≤ usedN l := by
  have h1 := sumL_take_le l (i + 1)
  obtain ⟨hi, rfl⟩ := List.getElem?_eq_some_iff.1 h
  have e : sumL (l.take (i + 1)) = sumL (l.take i) + l[i].2.length := by
    rw [List.take_succ_eq_append_getElem hi]
    simp only [sumL, List.map_append, List.map_cons, List.map_nil, List.sum_append, List.sum_cons, List.sum_nil]
    omega
  refine ⟨?_, List.take_succ_eq_append_getElem hi, ?_⟩
  · unfold usedN
    rw [e, List.length_take, List.length_take]
    omega
  · unfold usedN
    rw [List.length_take]
    omega
def NewAt (base : Nat) : Fact := fun u w => ∃ g, u = .pointer (some ⟨g, 0, none⟩) ∧ PageAt w base g (.slice none 0 0) [] 2
theorem NewAt.steady (base : Nat) : Steady (NewAt base) := ⟨fun u w w' ⟨g, h1, h2⟩ hb => ⟨g, h1, h2.keep hb⟩⟩
def DecEnds (l : List Rec) (w : World) (e : Ending) (w' : World) : Prop := ∃ g v, e = .returned (.tuple #[.pointer (some ⟨g, 0, none⟩), .int .i64 0]) ∧ PageAt w' w.heap.size g v l (usedN l : Int) ∧ Below w.heap.size w w'
set_option maxRecDepth 8000 in
set_option maxHeartbeats 8000000 in
theorem decode_c (l : List Rec) (w : World) (hr : Rises l) (hu : usedN l ≤ 512) (hid : ∀ b ∈ l, b.1 ≤ 18446744073709551615) :
    Calls Try.prog 11 #[.string (st (encL l))] w (DecEnds l w) := by
  have hlen := enc_len hu
  have htwo := enc_two l
  have hslot := fun i b h => enc_slot (l := l) (i := i) (b := b) h hu
  have hll : l.length ≤ 42 := by unfold usedN at hu; omega
  have hce := fun (base g : Nat) (v : Value) (w : World) (hp : PageAt w base g v l (usedN l : Int)) => enc_c base g v l _ w hp hu
  unfold DecEnds StrEnds at *
  generalize encL l = D at *
  have w2 := wide2 (l.length : Int) (by omega) (by omega)
  have cw : ∀ w, Calls Try.prog 24 #[.string (st (D.take 2))] w fun e w'' => e = .returned (.int .u64 (l.length : Int)) ∧ Below w.heap.size w w'' := fun w => by
    have := below_of_same (wide_c (D.take 2) w (by rw [htwo]; simp [twoL, maxLen]))
    rw [htwo, w2] at this
    rw [htwo]
    exact this
  clear htwo w2
  have hw64 : IntKind.i64.wrap (l.length : Int) = l.length := by rw [IntKind.wrap_i64]; omega
  have hDs : (D.length : Int) = 512 := by omega
  have hDs2 := hlen
  have hll' : ¬ (42 : Int) < l.length := by omega
  go_enter Try.func11, Try.ntmps11
  go_upto_region 5 with fail
  (refine wp_region_rel_at (7) [16, 4] [] (by kernel_rfl) (by kernel_rfl) (by kernel_rfl) ?_; (simp only [List.take_succ_cons, List.take_zero, List.drop_succ_cons, List.drop_zero]))
  (with_reducible refine wpRel_fact [] (16) ((NewAt w.heap.size)) (by kernel_rfl) rfl rfl ((NewAt.steady _)) (by first | exact rfl | go_simp) (fun p => ?_) ?_)
  · (try simp only [pickR, pickR_nil, fillR, List.contains_cons, List.contains_nil, Nat.reduceBEq, Bool.or_false, Bool.or_true, Bool.true_or, Bool.false_or, if_true, if_false, Bool.false_eq_true])
    go_wp2_with ((with_reducible refine (new_c w.heap.size p.w p.h.size).mono ?_); rintro e w3 ⟨rfl, hP, hlt, hb3⟩)
    exact ⟨fun h => (nomatch h), rfl, rfl, hb3, _, rfl, hP⟩
  ((with_reducible refine wpRel_none (by kernel_rfl) (by kernel_rfl) ?_); intro K hK; go_simp; first | (with_reducible refine hK _ ?_; clear hK K) | (apply Exists.intro; (with_reducible refine ⟨fun _ => ⟨?_, _, rfl⟩, hK _ ?_⟩); (· exact rfl); clear hK K) | (apply Exists.intro; (with_reducible refine ⟨fun _ => ?_, hK _ ?_⟩); (· (with_reducible (exact cw _))); clear hK K))
  ((with_reducible refine wpRel_none (by kernel_rfl) (by kernel_rfl) ?_); intro K hK; go_simp; first | (with_reducible refine hK _ ?_; clear hK K) | (apply Exists.intro; (with_reducible refine ⟨fun _ => ⟨?_, _, rfl⟩, hK _ ?_⟩); (· exact rfl); clear hK K) | (apply Exists.intro; (with_reducible refine ⟨fun _ => ?_, hK _ ?_⟩); (· (with_reducible (exact cw _))); clear hK K))
  ((with_reducible refine wpRel_none (by kernel_rfl) (by kernel_rfl) ?_); intro K hK; go_simp; first | (with_reducible refine hK _ ?_; clear hK K) | (apply Exists.intro; (with_reducible refine ⟨fun _ => ⟨?_, _, rfl⟩, hK _ ?_⟩); (· exact rfl); clear hK K) | (apply Exists.intro; (with_reducible refine ⟨fun _ => ?_, hK _ ?_⟩); (· (with_reducible (exact cw _))); clear hK K))
  ((with_reducible refine wpRel_none (by kernel_rfl) (by kernel_rfl) ?_); intro K hK; go_simp; first | (with_reducible refine hK _ ?_; clear hK K) | (apply Exists.intro; (with_reducible refine ⟨fun _ => ⟨?_, _, rfl⟩, hK _ ?_⟩); (· exact rfl); clear hK K) | (apply Exists.intro; (with_reducible refine ⟨fun _ => ?_, hK _ ?_⟩); (· (with_reducible (exact cw _))); clear hK K))
  (with_reducible refine wpRel_fact [16] (4) ((NewAt w.heap.size)) (by kernel_rfl) rfl rfl ((NewAt.steady _)) (by first | exact rfl | go_simp) (fun p => ?_) ?_)
  · (try simp only [pickR, pickR_nil, fillR, List.contains_cons, List.contains_nil, Nat.reduceBEq, Bool.or_false, Bool.or_true, Bool.true_or, Bool.false_or, if_true, if_false, Bool.false_eq_true])
    rintro u ⟨g, rfl, hP⟩
    go_wp2_with fail
    exact ⟨fun h => (nomatch h), rfl, rfl, Below.refl _ _, _, rfl, hP⟩
  ((with_reducible refine wpRel_none (by kernel_rfl) (by kernel_rfl) ?_); intro K hK; go_simp; first | (with_reducible refine hK _ ?_; clear hK K) | (apply Exists.intro; (with_reducible refine ⟨fun _ => ⟨?_, _, rfl⟩, hK _ ?_⟩); (· exact rfl); clear hK K) | (apply Exists.intro; (with_reducible refine ⟨fun _ => ?_, hK _ ?_⟩); (· (with_reducible (fail))); clear hK K))
  ((with_reducible refine wpRel_nil ?_); intro p; (simp only [fillR]))
  rintro u4 ⟨g, rfl, hP⟩ u16 _ _
  go_simp
  go_wp2_with fail
  have hbp := p.h
  generalize p.w = w1 at hP hbp ⊢
  go_loopw [24] (fun a24 wr => ∃ i : Nat, ∃ v, a24 = .int .i64 i ∧ i ≤ l.length ∧ Hid (PageAt wr w.heap.size g v (l.take i) (usedN (l.take i) : Int)) ∧ Below w.heap.size w wr) (fun c _ => l.length - (intOf c).toNat)
  case atStart => exact ⟨0, _, rfl, Nat.zero_le _, hP, hbp⟩
  case round =>
    obtain ⟨i, v, rfl, hi, hpi, hbr⟩ := hrel
    by_cases hil : i < l.length
    · have hil' : (i : Int) < l.length := by omega
      have hget : l[i]? = some l[i] := by simp
      obtain ⟨h8, h10, h12, htx, hat⟩ := hslot i l[i] hget
      have hin := hid l[i] (by simp)
      have m1 : IntKind.i64.wrap ((i : Int) * 12) = (i : Int) * 12 := by rw [IntKind.wrap_i64]; omega
      have m2 : IntKind.i64.wrap (2 + (i : Int) * 12) = 2 + (i : Int) * 12 := by rw [IntKind.wrap_i64]; omega
      have m3 : 2 + (i : Int) * 12 ≤ 512 := by omega
      go_upto_region 12 with fail
      have hT : List.drop (2 + i * 12) (List.take 512 D) = D.drop (2 + 12 * i) := by rw [List.take_of_length_le (by omega), Nat.mul_comm]
      rw [hT]
      have hTl : (D.drop (2 + 12 * i)).length = 512 - (2 + 12 * i) := by rw [List.length_drop, hlen]
      have t12 : 12 ≤ ((D.drop (2 + 12 * i)).length : Int) := by omega
      have t10 : 10 ≤ ((D.drop (2 + 12 * i)).length : Int) := by omega
      have t8 : 8 ≤ ((D.drop (2 + 12 * i)).length : Int) := by omega
      clear hT m1 m2 m3
      obtain ⟨hu1, htk, hu2⟩ := used_snoc hget
      have hrs := hr.take i
      have hbl := hr.below hget
      generalize D.drop (2 + 12 * i) = T at *
      have c8 : ∀ w, Calls Try.prog 24 #[.string (st (T.take 8))] w fun e w'' => e = .returned (.int .u64 (l[i].1 : Int)) ∧ Below w.heap.size w w'' := fun w => by
        have := below_of_same (wide_c (T.take 8) w (by rw [h8]; simp [eightL, maxLen]))
        rw [h8, wide8 _ (by omega) (by omega)] at this
        rw [h8]
        exact this
      have cA : ∀ w, Calls Try.prog 24 #[.string (st ((T.take 10).drop 8))] w fun e w'' => e = .returned (.int .u64 (atN l i : Int)) ∧ Below w.heap.size w w'' := fun w => by
        have := below_of_same (wide_c ((T.take 10).drop 8) w (by rw [h10]; simp [twoL, maxLen]))
        rw [h10, wide2 _ (by omega) (by omega)] at this
        rw [h10]
        exact this
      have cB : ∀ w, Calls Try.prog 24 #[.string (st ((T.take 12).drop 10))] w fun e w'' => e = .returned (.int .u64 (l[i].2.length : Int)) ∧ Below w.heap.size w w'' := fun w => by
        have := below_of_same (wide_c ((T.take 12).drop 10) w (by rw [h12]; simp [twoL, maxLen]))
        rw [h12, wide2 _ (by omega) (by omega)] at this
        rw [h12]
        exact this
      clear h8 h10 h12 hTl
      have htx := Lib.hid htx
      generalize hx : l[i] = x at *
      obtain ⟨id, s⟩ := x
      dsimp only at *
      generalize atN l i = q at *
      have e1 : IntKind.i64.wrap (q : Int) = q := by rw [IntKind.wrap_i64]; omega
      have e2 : IntKind.i64.wrap (s.length : Int) = s.length := by rw [IntKind.wrap_i64]; omega
      have e3 : IntKind.i64.wrap ((q : Int) + s.length) = (q : Int) + s.length := by rw [IntKind.wrap_i64]; omega
      have e4 : ¬ (512 : Int) < (q : Int) + s.length := by omega
      have e5 : (q : Int) + s.length ≤ 512 := by omega
      have htk' := Lib.hid htk
      have hu1' := Lib.hid hu1
      clear hx hget hin htk hu1
      (refine wp_region_flow [] (by kernel_rfl) (by kernel_rfl) ?_; (repeat (((with_reducible refine wpFlow_steps ?_); intro K hK; go_simp; first | (with_reducible refine hK _ ?_; clear hK K) | (apply Exists.intro; (with_reducible refine ⟨fun _ => ⟨?_, _, rfl⟩, hK _ ?_⟩); (· exact rfl); clear hK K) | (apply Exists.intro; (with_reducible refine ⟨fun _ => ⟨_, rfl⟩, hK _ ?_⟩); clear hK K) | (apply Exists.intro; (with_reducible refine ⟨fun _ => ?_, hK _ ?_⟩); (· (with_reducible (first | exact cA _ | exact cB _))); clear hK K)))); (refine wpFlow_nil ?_; rintro w1 ⟨q0, hq0⟩; have hb := In.h q0; rw [← hq0] at hb; clear hq0 q0; (first | ((with_reducible obtain ⟨p, hw''⟩ := In.of2 p hb); subst hw'') | (obtain ⟨p, hw''⟩ := In.of hb; subst hw'')); go_simp; intros))
      go_upto_region 13 with fail
      have hbp2 := p.h
      generalize p.w = w5 at hbp2 ⊢
      have hp5 := hpi.out.keep hbp2
      have hb5 : Below w.heap.size w w5 := hbr.trans (hbp2.mono hbr.size)
      have htl : (l.take i).length ≤ 1000 := by rw [List.length_take]; omega
      have hfit : usedN (l.take i) + 12 + s.length ≤ 512 := by rw [← hu1'.out]; omega
      have cP := fun r : In w5 => putEnd_c w.heap.size g v (l.take i) (usedN (l.take i)) (id, s) r.w (hp5.keep r.h) (Nat.le_trans hb5.size r.h.size) hrs hbl htl (by omega) (by show s.length ≤ _; omega)
      unfold PutEnds at cP
      dsimp only at cP
      have htx2 := htx.out
      have f1 : 0 ≤ (q : Int) + s.length := by omega
      have f2 : (q : Int) ≤ (q : Int) + s.length := by omega
      have f3 : ((q : Int) + s.length).toNat = q + s.length := by omega
      have hgone := Lib.hid (And.intro hrs hbl)
      have hfit := Lib.hid hfit
      clear hp5 hbl hrs htl hbp2
      (refine wp_region_rel_at (15) [] [] (by kernel_rfl) (by kernel_rfl) (by kernel_rfl) ?_; (simp only [List.take_succ_cons, List.take_zero, List.drop_succ_cons, List.drop_zero]))
      iterate 15 (((with_reducible refine wpRel_none (by kernel_rfl) (by kernel_rfl) ?_); intro K hK; go_simp; first | (with_reducible refine hK _ ?_; clear hK K) | (apply Exists.intro; (with_reducible refine ⟨fun _ => ⟨?_, _, rfl⟩, hK _ ?_⟩); (· exact rfl); clear hK K) | (apply Exists.intro; (with_reducible refine ⟨fun _ => ?_, hK _ ?_⟩); (· (with_reducible (first | exact c8 _))); clear hK K)))
      ((with_reducible refine wpRel_nil ?_); intro p; (simp only [fillR]))
      intro _
      go_simp
      go_wp2_with ((with_reducible refine (cP _).mono ?_); rintro e w6 ⟨hb6, h6⟩; rcases h6 with ⟨_, he6, v6, hp6⟩ | ⟨hno, _, _⟩; rotate_left; (exact absurd hfit.out hno); subst he6)
      refine ⟨⟨i + 1, v6, rfl, hil, ?_, (p.back hb5).trans hb6⟩, by simp [intOf]; omega⟩
      show PageAt _ _ _ _ _ _
      rw [hu1'.out, htk'.out]
      exact hp6
    · have e : i = l.length := by omega
      subst e
      have hil' : ¬ (l.length : Int) < l.length := by omega
      have hp := hpi.out
      rw [List.take_length] at hp
      have hc := hce _ _ _ _ hp
      clear hslot hce hpi
      go_wp2_with ((with_reducible refine hc.mono ?_); rintro e w2 ⟨rfl, hb2⟩)
      exact bodyPost_ret (v := .tuple #[.pointer (some ⟨g, 0, none⟩), .int .i64 0]) (by simp only [results, Try.results11]; go_simp) rfl ⟨g, v, rfl, hp.keep hb2, hbr.trans (hb2.mono hbr.size)⟩
end Go.Proofs.Ytgcoepljlkahoaa
