
/-
  Pages: the reference's Put, walked: printed by mkrput.py.
-/
import Derived.Test.YtgcoepljlkahoaaPgM
set_option linter.unusedSimpArgs false
set_option linter.unusedVariables false
namespace Go.Proofs.Ytgcoepljlkahoaa
open Go.RowKit

theorem ByteRow.stays {base g : Nat} {D : List UInt8} {w w' : World} (h : ByteRow base g D w) (hb : Below w.heap.size w w') : ByteRow base g D w' := own_below h hb
theorem layB_nil (D : List UInt8) (o : Nat) : layB D o [] = D := by simp [layB]
set_option maxRecDepth 8000 in
set_option maxHeartbeats 4000000 in
theorem rput_c (A : Option Addr) (cap : Nat) (l : List Rec) (w : World) (hp : BodiesAt w A l) (hu : usedN l ≤ 512) (hid : ∀ b ∈ l, b.1 ≤ 18446744073709551615) :
    Calls Try.prog 20 #[.slice A l.length cap] w (StrEnds (encL l) w) := by
  have hll : l.length ≤ 42 := by unfold usedN at hu; omega
  have hsl : sumL l ≤ 510 := by unfold usedN at hu; omega
  have hid2 := hsl
  have hstep := fun i b h => refD_step (l := l) (i := i) (b := b) h hu
  have hDl := Lib.hid (fun i => refD_len hu i)
  have hall := Lib.hid (refD_all l)
  have hnone := refD_none l
  obtain ⟨GOAL, hG⟩ : ∃ G, G = StrEnds (encL l) w := ⟨_, rfl⟩
  rw [← hG]
  have hGo := Lib.hid hG
  clear hG
  have ct := rtwo_c (l.length : Int)
  obtain ⟨w1, hmk, hrow, hb1⟩ := byte_make w
  have ct1 := ct w1 (by omega) (by omega)
  unfold StrEnds at ct1
  have hrow := Lib.hid hrow
  clear ct
  go_enter Try.func20, Try.ntmps20
  go_upto_region 2 with fail
  go_wp2_with (first | ((with_reducible refine ct1.mono ?_); rintro e w2 ⟨rfl, hb2⟩; obtain ⟨k1, k2, k3⟩ := byte_row (hrow.out.stays hb2) 0 (twoL (l.length : Int)) 512 (by simp) (by rw [twoL_len]; omega) 512 (by rw [twoL_len]; omega)) | (at_builtin; refine wpList_copy_run _ rfl _ _ 27 9 rfl _ _ rfl rfl k1 ?_))
  obtain ⟨w3, hw3⟩ : ∃ w3, w3 = w2.setCells w.heap.size 0 (byteC (twoL (l.length : Int))) := ⟨_, rfl⟩
  rw [← hw3] at k2 k3 ⊢
  rw [← hnone] at k2
  have hb2w := hb1.trans (hb2.mono hb1.size)
  have hb3 : Below w.heap.size w w3 := hb2w.grown k3 hb2w.size fun k hk => by cases hk; exact Nat.le_refl _
  have k2 := Lib.hid k2
  clear k1 k3 hw3 hb2 hb1 hrow ct1 hmk hnone hb2w
  go_loopw [4, 5] (fun a4 a5 wr => ∃ i E : Nat, a5 = .int .i64 i ∧ a4 = .int .i64 (E : Int) ∧ Hid (E = 512 - sumL (l.take i)) ∧ E ≤ 512 ∧ i ≤ l.length ∧ Hid (ByteRow w.heap.size w.heap.size (refD l i) wr) ∧ Below w.heap.size w wr) (fun _ a _ => l.length - (intOf a).toNat)
  case atStart => exact ⟨0, 512, rfl, rfl, Lib.hid (by simp [sumL]), Nat.le_refl _, Nat.zero_le _, k2, hb3⟩
  case round =>
    clear k2 hb3
    obtain ⟨i, E, rfl, rfl, hE, hE512, hi, hrowr, hbr⟩ := hrel
    have w3i : IntKind.i64.wrap ((i : Int) + 1) = (i : Int) + 1 := by rw [IntKind.wrap_i64]; omega
    by_cases hil : i < l.length
    · have hil' : (i : Int) < l.length := by omega
      have hget : l[i]? = some l[i] := by simp
      obtain ⟨_, hu2⟩ := used_take hget
      have hut := usedN_take l (i + 1)
      have hus : 2 + 12 * (i + 1) + sumL (l.take (i + 1)) ≤ 512 := by
        unfold usedN at hut hu
        rw [List.length_take] at hut
        omega
      have hst := Lib.hid (hstep i l[i] hget)
      have hxid := hid l[i] (by simp)
      obtain ⟨ad, hA, hB⟩ := hp i l[i] hget
      subst hA
      have hBi := hB.keep hbr
      have hB0 := Lib.hid hB
      generalize l[i] = x at *
      obtain ⟨id, s⟩ := x
      dsimp only at *
      obtain ⟨E2, hE2⟩ : ∃ E2, E2 = atN l i := ⟨_, rfl⟩
      have hE3 : E2 + s.length = E := by
        have h1 := hE.out
        unfold atN at hE2
        omega
      have hE4 : (E : Int) - s.length = E2 := by omega
      have hE5 : Hid (E2 = 512 - sumL (l.take (i + 1))) := Lib.hid hE2
      have hE6 : Hid (E2 = atN l i) := Lib.hid hE2
      have wE : IntKind.i64.wrap (E2 : Int) = E2 := by rw [IntKind.wrap_i64]; omega
      have o1 : IntKind.i64.wrap (12 * (i : Int)) = 12 * (i : Int) := by rw [IntKind.wrap_i64]; omega
      have o2 : IntKind.i64.wrap (2 + 12 * (i : Int)) = 2 + 12 * (i : Int) := by rw [IntKind.wrap_i64]; omega
      have o3 : 2 + 12 * (i : Int) ≤ 512 := by omega
      have o4 : (0 : Int) ≤ 2 + 12 * (i : Int) := by omega
      have o5 : ¬ 512 = 2 + 12 * i := by omega
      have hE2l : (E2 : Int) ≤ 512 := by omega
      obtain ⟨q6, q0, q1⟩ := hBi
      have hBi : Hid (BodyAt wr (ad.add (i * 2)) (id, s)) := Lib.hid ⟨q6, q0, q1⟩
      have hus := Lib.hid hus
      have hE3h := Lib.hid hE3
      clear hp hget hu2 hut hB hE2 hE3
      by_cases h512 : 512 = E2
      · have hs0 : s = [] := List.eq_nil_of_length_eq_zero (by have := hE3h.out; omega)
        have hE0 : E = 512 := by have h1 := hE3h.out; rw [hs0] at h1; simp at h1; omega
        have h512' := h512.symm
        clear h512 hE4 hE2l wE hE512
        subst hs0 h512' hE0
        have hE3h := True.intro
        go_upto_region 8 with fail
        (refine wp_region_rel_at (8) [] [] (by kernel_rfl) (by kernel_rfl) (by kernel_rfl) ?_; (simp only [List.take_succ_cons, List.take_zero, List.drop_succ_cons, List.drop_zero]))
        iterate 8 (((with_reducible refine wpRel_none (by kernel_rfl) (by kernel_rfl) ?_); intro K hK; go_simp; first | (with_reducible refine hK _ ?_; clear hK K) | (apply Exists.intro; (with_reducible refine ⟨fun _ => ⟨?_, _, rfl⟩, hK _ ?_⟩); (· exact rfl); clear hK K) | (apply Exists.intro; (with_reducible refine ⟨fun _ => ?_, hK _ ?_⟩); (· (with_reducible (fail))); clear hK K)))
        ((with_reducible refine wpRel_nil ?_); intro p; (simp only [fillR]))
        intro _
        have hrowp := hrowr.out.stays p.h
        have hbp := hbr.trans (p.h.mono hbr.size)
        have hBp : Hid (BodyAt p.w (ad.add (i * 2)) (id, [])) := Lib.hid (hBi.out.keep p.h)
        generalize p.w = w5 at *
        clear p q6 q0 q1
        have hrow6 : Hid (ByteRow w.heap.size w.heap.size (layB (refD l i) 512 []) w5) := Lib.hid (by rw [layB_nil]; exact hrowp)
        have hb6 : Below w.heap.size w w5 := hbp
        have hB6 := hBp
        obtain ⟨k1, _, _⟩ := byte_row hrowp 0 [] 0 (hDl.out i) (by simp) 0 (by simp)
        go_wp2_with (at_builtin; refine wpList_copy_run _ rfl _ _ 27 9 rfl _ _ rfl rfl k1 ?_)
        clear k1
        rw [show w5.setCells w.heap.size 0 [] = w5 from rfl]
        clear hBp hbp hrowp
        generalize w5 = w6 at *
        have ce := fun (w : World) => reight_c (id : Int) w (by omega) (by omega)
        have ct1 := fun (w : World) => rtwo_c (512 : Int) w (by omega) (by omega)
        have ct2 := fun (w : World) => rtwo_c (0 : Int) w (by omega) (by omega)
        unfold StrEnds at ce ct1 ct2
        have hbs6 := hb6.size
        obtain ⟨q6, q0, q1⟩ := hB6.out
        go_upto_region 9 with fail
        (refine wp_region_rel_at (22) [] [] (by kernel_rfl) (by kernel_rfl) (by kernel_rfl) ?_; (simp only [List.take_succ_cons, List.take_zero, List.drop_succ_cons, List.drop_zero]))
        iterate 22 (((with_reducible refine wpRel_none (by kernel_rfl) (by kernel_rfl) ?_); intro K hK; go_simp; first | (with_reducible refine hK _ ?_; clear hK K) | (apply Exists.intro; (with_reducible refine ⟨fun _ => ⟨?_, _, rfl⟩, hK _ ?_⟩); (· exact rfl); clear hK K) | (apply Exists.intro; (with_reducible refine ⟨fun _ => ?_, hK _ ?_⟩); (· (with_reducible (first | exact ce _ | exact ct1 _ | exact ct2 _))); clear hK K)))
        ((with_reducible refine wpRel_nil ?_); intro p; (simp only [fillR]))
        intro _
        have hrowq := hrow6.out.stays p.h
        have hbq := hb6.trans (p.h.mono hbs6)
        generalize p.w = w7 at *
        clear p q6 q0 q1 ce ct1 ct2 hbs6 hb6 hrow6
        have hst2 : Hid (refD l (i + 1) = layB (layB (refD l i) 512 []) (2 + 12 * i) (eightL (id : Int) ++ (twoL (512 : Int) ++ twoL (0 : Int)))) := Lib.hid (by
          have h1 := hst.out
          have h2 := hE5.out
          have h3 := hE6.out
          unfold slotL at h1
          rw [← h3, show 512 - (sumL (l.take (i + 1)) : Int) = (512 : Int) by omega, List.append_assoc] at h1
          exact h1)
        obtain ⟨k1, k2, k3⟩ := byte_row hrowq (2 + 12 * i) (eightL (id : Int) ++ (twoL (512 : Int) ++ twoL (0 : Int))) (512 - (2 + 12 * i)) (by rw [layB_len (by rw [hDl.out]; simp)]; exact hDl.out i) (by have := hus.out; simp only [List.length_append, eightL_len, twoL_len]; omega) (512 - (2 + 12 * i)) (by have := hus.out; simp only [List.length_append, eightL_len, twoL_len]; omega)
        have hbqh := hbq.grown k3 hbq.size fun k hk => by cases hk; exact Nat.le_refl _
        have hF : Hid (ByteRow w.heap.size w.heap.size (refD l (i + 1)) _) := Lib.hid (hst2.out.symm ▸ k2)
        go_wp2_with (at_builtin; refine wpList_copy_run _ rfl _ _ 27 9 rfl _ _ rfl rfl k1 ?_)
        simp only [byteC, List.map_append] at hF hbqh
        exact ⟨⟨i + 1, 512, by simp, rfl, hE5, by omega, hil, hF, hbqh⟩, by simp [intOf]; omega⟩
      · have h512' : ¬ 512 = E2 := h512
        go_upto_region 8 with fail
        (refine wp_region_rel_at (8) [] [] (by kernel_rfl) (by kernel_rfl) (by kernel_rfl) ?_; (simp only [List.take_succ_cons, List.take_zero, List.drop_succ_cons, List.drop_zero]))
        iterate 8 (((with_reducible refine wpRel_none (by kernel_rfl) (by kernel_rfl) ?_); intro K hK; go_simp; first | (with_reducible refine hK _ ?_; clear hK K) | (apply Exists.intro; (with_reducible refine ⟨fun _ => ⟨?_, _, rfl⟩, hK _ ?_⟩); (· exact rfl); clear hK K) | (apply Exists.intro; (with_reducible refine ⟨fun _ => ?_, hK _ ?_⟩); (· (with_reducible (fail))); clear hK K)))
        ((with_reducible refine wpRel_nil ?_); intro p; (simp only [fillR]))
        intro _
        have hrowp := hrowr.out.stays p.h
        have hbp := hbr.trans (p.h.mono hbr.size)
        have hBp : Hid (BodyAt p.w (ad.add (i * 2)) (id, s)) := Lib.hid (hBi.out.keep p.h)
        generalize p.w = w5 at *
        clear p q6 q0 q1
        obtain ⟨k1, k2, k3⟩ := byte_row hrowp E2 s (512 - E2) (hDl.out i) (by have := hE3h.out; omega) (512 - E2) (by have := hE3h.out; omega)
        go_wp2_with (at_builtin; refine wpList_copy_run _ rfl _ _ 27 9 rfl _ _ rfl rfl k1 ?_)
        obtain ⟨w6, hw6⟩ : ∃ w6, w6 = w5.setCells w.heap.size E2 (byteC s) := ⟨_, rfl⟩
        rw [← hw6] at k1 k2 k3
        rw [← hw6]
        have hb6 : Below w.heap.size w w6 := hbp.grown k3 hbp.size fun k hk => by cases hk; exact Nat.le_refl _
        have hB6 : Hid (BodyAt w6 (ad.add (i * 2)) (id, s)) := Lib.hid (hB0.out.keep hb6)
        have hrow6 := Lib.hid k2
        clear k1 k2 k3 hw6 hBp hbp hrowp
        have ce := fun (w : World) => reight_c (id : Int) w (by omega) (by omega)
        have ct1 := fun (w : World) => rtwo_c (E2 : Int) w (by omega) (by omega)
        have ct2 := fun (w : World) => rtwo_c (s.length : Int) w (by omega) (by omega)
        unfold StrEnds at ce ct1 ct2
        have hbs6 := hb6.size
        obtain ⟨q6, q0, q1⟩ := hB6.out
        go_upto_region 9 with fail
        (refine wp_region_rel_at (22) [] [] (by kernel_rfl) (by kernel_rfl) (by kernel_rfl) ?_; (simp only [List.take_succ_cons, List.take_zero, List.drop_succ_cons, List.drop_zero]))
        iterate 22 (((with_reducible refine wpRel_none (by kernel_rfl) (by kernel_rfl) ?_); intro K hK; go_simp; first | (with_reducible refine hK _ ?_; clear hK K) | (apply Exists.intro; (with_reducible refine ⟨fun _ => ⟨?_, _, rfl⟩, hK _ ?_⟩); (· exact rfl); clear hK K) | (apply Exists.intro; (with_reducible refine ⟨fun _ => ?_, hK _ ?_⟩); (· (with_reducible (first | exact ce _ | exact ct1 _ | exact ct2 _))); clear hK K)))
        ((with_reducible refine wpRel_nil ?_); intro p; (simp only [fillR]))
        intro _
        have hrowq := hrow6.out.stays p.h
        have hbq := hb6.trans (p.h.mono hbs6)
        generalize p.w = w7 at *
        clear p q6 q0 q1 ce ct1 ct2 hbs6 hb6 hrow6
        have hst2 : Hid (refD l (i + 1) = layB (layB (refD l i) E2 s) (2 + 12 * i) (eightL (id : Int) ++ (twoL (E2 : Int) ++ twoL (s.length : Int)))) := Lib.hid (by
          have h1 := hst.out
          have h2 := hE5.out
          have h3 := hE6.out
          unfold slotL at h1
          rw [← h3, show 512 - (sumL (l.take (i + 1)) : Int) = (E2 : Int) by omega, List.append_assoc] at h1
          exact h1)
        obtain ⟨k1, k2, k3⟩ := byte_row hrowq (2 + 12 * i) (eightL (id : Int) ++ (twoL (E2 : Int) ++ twoL (s.length : Int))) (512 - (2 + 12 * i)) (by rw [layB_len (by rw [hDl.out]; have := hE3h.out; omega)]; exact hDl.out i) (by have := hus.out; simp only [List.length_append, eightL_len, twoL_len]; omega) (512 - (2 + 12 * i)) (by have := hus.out; simp only [List.length_append, eightL_len, twoL_len]; omega)
        have hbqh := hbq.grown k3 hbq.size fun k hk => by cases hk; exact Nat.le_refl _
        have hF : Hid (ByteRow w.heap.size w.heap.size (refD l (i + 1)) _) := Lib.hid (hst2.out.symm ▸ k2)
        go_wp2_with (at_builtin; refine wpList_copy_run _ rfl _ _ 27 9 rfl _ _ rfl rfl k1 ?_)
        simp only [byteC, List.map_append] at hF hbqh
        exact ⟨⟨i + 1, E2, by simp, rfl, hE5, by omega, hil, hF, hbqh⟩, by simp [intOf]; omega⟩
    · have e : i = l.length := by omega
      subst e
      have hil' : ¬ (l.length : Int) < l.length := by omega
      have hD := hDl.out l.length
      have hr := hrowr.out
      rw [hall.out] at hr hD
      have hcv := byte_conv hr hD
      have hr := Lib.hid hr
      clear hp hrowr
      go_wp2_with fail
      rw [hGo.out]
      exact ⟨rfl, hbr⟩
end Go.Proofs.Ytgcoepljlkahoaa
