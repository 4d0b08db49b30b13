
/-
  Which predicates may be, of any: the reference's check, walked.
-/
import Derived.Test.YtglcnnnjdkjggaaPry
import Derived.Test.YtglcnnnjdkjggaaRcc
set_option linter.unusedSimpArgs false
set_option linter.unusedVariables false
namespace Go.Proofs.Ytglcnnnjdkjggaa
open Go.RowKit

theorem rpreds_eq (op : List UInt8) (nl nk : Nat) : (predsB op && decide (nk = 0) && (decide (predsN op < 0) || decide ((nl : Int) = predsN op))) = (predsB op && decide (nk = 0) && (decide (rpredsN op < 0) || decide ((nl : Int) = rpredsN op))) := by
  unfold predsB predsN rpredsN
  by_cases h1 : One op
  · simp [h1]
  · by_cases h2 : Two op
    · simp [h1, h2]
    · by_cases h3 : Any op
      · simp [h1, h2, h3]
      · simp [h1, h2, h3]
set_option maxRecDepth 8000 in
set_option maxHeartbeats 8000000 in
theorem rcheckQ_c (q : Pr) : ∀ (u : Value) (w : World) (d : Nat), HasQ w u q → d ≤ 81 → Calls Try.prog 16 #[u, .int .i64 (d : Int)] w fun e w' => e = .returned (.bool (checkQ q d)) ∧ Below w.heap.size w w' := by
  generalize hz : qsz q = z
  induction z using Nat.strongRecOn generalizing q with
  | _ z ih =>
    intro u w d hv hd
    obtain ⟨A, cap, K, kcap, rfl, hs, hp, hl, hm, hkl, hkm, hk⟩ := hv.open
    have hpart := fun i x => qsz_part (q := q) (x := x) (i := i)
    rw [hz] at hpart
    obtain ⟨op, l, kids⟩ := q
    dsimp only [Pr.op, Pr.l, Pr.kids] at *
    have hK : KidsAt w K kids := hk
    have hq := Lib.hid (show checkQ (.mk op l kids) d = (decide (d ≤ 80) && shapeQ op l.length kids.length && !anyBad l && checkQL kids (d + 1)) by rw [checkQ])
    have cp := fun w => rpredsAll_c op w
    have ck : d ≤ 80 → ∀ (i : Nat) (x : Pr), kids[i]? = some x → ∀ (u : Value) (w' : World), HasQ w' u x → Calls Try.prog 16 #[u, .int .i64 ((d : Int) + 1)] w' fun e w'' => e = .returned (.bool (checkQ x (d + 1))) ∧ Below w'.heap.size w' w'' := fun h80 i x hx u w' hu => by
      have := ih (qsz x) (hpart i x hx) x rfl u w' (d + 1) hu (by omega)
      simpa using this
    clear hv hz hk ih hpart hs
    generalize hR : checkQ (.mk op l kids) d = R at *
    clear hR
    go_enter Try.func16, Try.ntmps16
    go_upto_region 1 with fail
    obtain ⟨w1, hw1⟩ : ∃ w1, w1 = w.alloc (.cells #[.string (st op), .slice A l.length cap, .slice K kids.length kcap] 25) := ⟨_, rfl⟩
    have bk : Below w.heap.size w w1 := hw1 ▸ below_alloc w _
    have x0 : w1.cell? ⟨w.heap.size, 0, none⟩ = some (.string (st op)) := by rw [hw1]; simp [go_sem]
    have x1 : w1.cell? ⟨w.heap.size, 1, none⟩ = some (.slice A l.length cap) := by rw [hw1]; simp [go_sem]
    have x2 : w1.cell? ⟨w.heap.size, 2, none⟩ = some (.slice K kids.length kcap) := by rw [hw1]; simp [go_sem]
    have x6 : w.heap.size < w1.heap.size := by rw [hw1]; simp
    rw [← hw1]
    clear hw1
    by_cases h80 : 80 < d
    · have h80' : (80 : Int) < d := by omega
      have hR := Lib.hid (show R = false by rw [hq.out, decide_eq_false (by omega : ¬ d ≤ 80)]; rfl)
      clear hq cp ck hp hK
      go_wp2_with fail
      go_ret
      exact ⟨ret_bool hR.out.symm, bk⟩
    · have h80' : ¬ (80 : Int) < d := by omega
      have ck := ck (by omega)
      by_cases h12 : 12 < l.length
      · have h12' : (12 : Int) < l.length := by omega
        have hR := Lib.hid (show R = false by rw [hq.out]; simp [shapeQ]; omega)
        clear hq cp ck hp hK
        go_wp2_with fail
        go_ret
        exact ⟨ret_bool hR.out.symm, bk⟩
      · have h12' : ¬ (12 : Int) < l.length := by omega
        have hq' := Lib.hid (show R = (shapeQ op l.length kids.length && !anyBad l && checkQL kids (d + 1)) by rw [hq.out, decide_eq_true (by omega : d ≤ 80), Bool.true_and])
        clear hq
        have wd : IntKind.i64.wrap ((d : Int) + 1) = (d : Int) + 1 := by rw [wrap_i64]; omega
        unfold maxLen at hm hkm
        go_wp2_with fail
        go_loopw [5] (fun a5 wr => ∃ i : Nat, a5 = .int .i64 i ∧ i ≤ l.length ∧ Hid (anyBad (l.take i) = false) ∧ Below w1.heap.size w1 wr) (fun a _ => l.length - (intOf a).toNat)
        case atStart => exact ⟨0, rfl, Nat.zero_le _, rfl, Below.refl _ _⟩
        case round =>
          obtain ⟨i, rfl, hi, hno, hbr⟩ := hrel
          have bkr := bk.trans (hbr.mono bk.size)
          have z0 := (hbr.cell (p := ⟨w.heap.size, 0, none⟩) x6).trans x0
          have z1 := (hbr.cell (p := ⟨w.heap.size, 1, none⟩) x6).trans x1
          have z2 := (hbr.cell (p := ⟨w.heap.size, 2, none⟩) x6).trans x2
          have z6 := Nat.lt_of_lt_of_le x6 hbr.size
          clear x0 x1 x2 x6
          by_cases hil : i < l.length
          · have hil' : (i : Int) < l.length := by omega
            obtain ⟨ad, k', b', n', f', s', B', len', c', rfl, hx, hat⟩ := hp i l[i] (by simp)
            obtain ⟨q6, q0, q1, q2, q3, q4, q5⟩ := hat.keep bkr
            have cs := rCheck_c l[i] _ wr (hx.keep bkr)
            unfold IntEnds at cs
            have hst := Lib.hid (anyBad_snoc (l := l) (i := i) (x := l[i]) (by simp))
            have wi : IntKind.i64.wrap ((i : Int) + 1) = (i : Int) + 1 := by rw [wrap_i64]; omega
            have hle : ∀ j, anyBad (l.take j) = true → anyBad l = true := fun j h => by
              unfold anyBad at h ⊢
              rw [List.any_eq_true] at h ⊢
              obtain ⟨y, h1, h2⟩ := h
              exact ⟨y, List.mem_of_mem_take h1, h2⟩
            have hq2 := hq'
            clear hq' hat hx hp ck hK cp
            generalize hC : CheckV l[i] = r at *
            by_cases hr : r = 0
            · subst hr
              clear hC hle
              go_wp2_with ((with_reducible refine cs.mono ?_); rintro e w2 ⟨rfl, hb2⟩)
              refine ⟨⟨i + 1, rfl, hil, ?_, hbr.trans (hb2.mono hbr.size)⟩, by simp [intOf]; omega⟩
              show _ = _
              rw [hst.out, hno.out]; rfl
            · have hrb : (r != 0) = true := by simpa using hr
              have hyes : anyBad l = true := hle (i + 1) (by rw [hst.out]; simp [hr])
              have hR := Lib.hid (show R = false by rw [hq2.out, hyes]; simp)
              clear hC hle hyes hq2
              go_wp2_with ((with_reducible refine cs.mono ?_); rintro e w2 ⟨rfl, hb2⟩)
              go_ret
              exact ⟨ret_bool hR.out.symm, bkr.trans (hb2.mono bkr.size)⟩
          · have hil' : ¬ (i : Int) < l.length := by omega
            have hf := hno.out
            rw [List.take_of_length_le (by omega)] at hf
            have hq := Lib.hid (show R = (shapeQ op l.length kids.length && checkQL kids (d + 1)) by rw [hq'.out, hf]; simp)
            clear hf hq' hp hno
            have hKr := hK.keep bkr
            clear hK
            by_cases o1 : op = [97, 110, 100]
            · subst o1
              by_cases hl0 : l.length = 0
              · have hl0' : ((l.length : Int) == 0) = true := by rw [beq_iff_eq]; omega
                by_cases hk2 : kids.length = 2
                · have hk2' : ((kids.length : Int) == 2) = true := by rw [beq_iff_eq]; omega
                  have hi0 : (0 : Int) < kids.length := by omega
                  have hi1 : (1 : Int) < kids.length := by omega
                  obtain ⟨ad, opa, Ba, na, ca, Ja, jna, jca, rfl, hxa, hata⟩ := hKr 0 kids[0] (by simp)
                  obtain ⟨ad', opb, Bb, nb, cb, Jb, jnb, jcb, hadb, hxb, hatb⟩ := hKr 1 kids[1] (by simp)
                  cases hadb
                  rw [show ad.add (0 * 3) = ad from rfl] at hata
                  rw [show ad.add (1 * 3) = ad.add 3 from rfl] at hatb
                  have ca1 := fun p : In wr => ck 0 kids[0] (by simp) _ p.w (hxa.keep p.h)
                  have ca0 := ck 0 kids[0] (by simp) _ wr hxa
                  have cb1 := fun p : In wr => ck 1 kids[1] (by simp) _ p.w (hxb.keep p.h)
                  have hR := Lib.hid (show R = (checkQ kids[0] (d + 1) && checkQ kids[1] (d + 1)) by
                    rw [hq.out, show shapeQ [97, 110, 100] l.length kids.length = true by simp [shapeQ, hk2, hl0], Bool.true_and]
                    match kids, hk2 with
                    | [x, y], _ => simp [checkQL])
                  generalize kids[0] = xa at *
                  generalize kids[1] = xb at *
                  obtain ⟨a6, a0, a1, a2⟩ := hata
                  obtain ⟨b6, b0, b1, b2⟩ := hatb
                  have b6' : ad.block < wr.heap.size := b6
                  have b1' : wr.cell? ⟨ad.block, ad.off + 3 + 1, none⟩ = some (.slice Bb nb cb) := b1
                  have b2' : wr.cell? ⟨ad.block, ad.off + 3 + 2, none⟩ = some (.slice Jb jnb jcb) := b2
                  have b0' : wr.cell? ⟨ad.block, ad.off + 3, none⟩ = some (.string (st opb)) := by
                    rw [show ad.add 3 = ⟨ad.block, ad.off + 3, none⟩ from by simp [Addr.add]] at b0
                    exact b0
                  generalize checkQ xa (d + 1) = ra at *
                  generalize checkQ xb (d + 1) = rb at *
                  clear hq ck cp hKr hk2 hl0 hxa hxb
                  cases ra
                  · go_wp2_with (first | ((with_reducible refine ca0.mono ?_); rintro e w2 ⟨rfl, hb2⟩; (first | ((with_reducible obtain ⟨p, hw''⟩ := In.of2 p hb2); subst hw'') | (obtain ⟨p, hw''⟩ := In.of hb2; subst hw''))))
                    go_ret
                    exact ⟨ret_bool (by rw [hR.out]; rfl), p.back bkr⟩
                  · go_wp2_with (first | ((with_reducible refine ca0.mono ?_); rintro e w2 ⟨rfl, hb2⟩; (first | ((with_reducible obtain ⟨p, hw''⟩ := In.of2 p hb2); subst hw'') | (obtain ⟨p, hw''⟩ := In.of hb2; subst hw''))) | ((with_reducible refine (cb1 _).mono ?_); rintro e w3 ⟨rfl, hb3⟩; (first | ((with_reducible obtain ⟨p, hw''⟩ := In.of2 p hb3); subst hw'') | (obtain ⟨p, hw''⟩ := In.of hb3; subst hw''))))
                    go_ret
                    exact ⟨ret_bool (by rw [hR.out]; rfl), p.back bkr⟩
                · have hk2' : ((kids.length : Int) == 2) = false := by rw [beq_eq_false_iff_ne]; omega
                  have hR := Lib.hid (show R = false by rw [hq.out, show shapeQ [97, 110, 100] l.length kids.length = false by simp [shapeQ, hk2]]; simp)
                  clear hq ck cp hKr hk2 hl0
                  go_wp2_with fail
                  go_ret
                  exact ⟨ret_bool hR.out.symm, bkr⟩
              · have hl0' : ((l.length : Int) == 0) = false := by rw [beq_eq_false_iff_ne]; omega
                have hR := Lib.hid (show R = false by rw [hq.out, show shapeQ [97, 110, 100] l.length kids.length = false by simp [shapeQ, hl0]]; simp)
                clear hq ck cp hKr hl0
                go_wp2_with fail
                go_ret
                exact ⟨ret_bool hR.out.symm, bkr⟩
            by_cases o2 : op = [111, 114]
            · subst o2
              by_cases hl0 : l.length = 0
              · have hl0' : ((l.length : Int) == 0) = true := by rw [beq_iff_eq]; omega
                by_cases hk2 : kids.length = 2
                · have hk2' : ((kids.length : Int) == 2) = true := by rw [beq_iff_eq]; omega
                  have hi0 : (0 : Int) < kids.length := by omega
                  have hi1 : (1 : Int) < kids.length := by omega
                  obtain ⟨ad, opa, Ba, na, ca, Ja, jna, jca, rfl, hxa, hata⟩ := hKr 0 kids[0] (by simp)
                  obtain ⟨ad', opb, Bb, nb, cb, Jb, jnb, jcb, hadb, hxb, hatb⟩ := hKr 1 kids[1] (by simp)
                  cases hadb
                  rw [show ad.add (0 * 3) = ad from rfl] at hata
                  rw [show ad.add (1 * 3) = ad.add 3 from rfl] at hatb
                  have ca1 := fun p : In wr => ck 0 kids[0] (by simp) _ p.w (hxa.keep p.h)
                  have ca0 := ck 0 kids[0] (by simp) _ wr hxa
                  have cb1 := fun p : In wr => ck 1 kids[1] (by simp) _ p.w (hxb.keep p.h)
                  have hR := Lib.hid (show R = (checkQ kids[0] (d + 1) && checkQ kids[1] (d + 1)) by
                    rw [hq.out, show shapeQ [111, 114] l.length kids.length = true by simp [shapeQ, hk2, hl0], Bool.true_and]
                    match kids, hk2 with
                    | [x, y], _ => simp [checkQL])
                  generalize kids[0] = xa at *
                  generalize kids[1] = xb at *
                  obtain ⟨a6, a0, a1, a2⟩ := hata
                  obtain ⟨b6, b0, b1, b2⟩ := hatb
                  have b6' : ad.block < wr.heap.size := b6
                  have b1' : wr.cell? ⟨ad.block, ad.off + 3 + 1, none⟩ = some (.slice Bb nb cb) := b1
                  have b2' : wr.cell? ⟨ad.block, ad.off + 3 + 2, none⟩ = some (.slice Jb jnb jcb) := b2
                  have b0' : wr.cell? ⟨ad.block, ad.off + 3, none⟩ = some (.string (st opb)) := by
                    rw [show ad.add 3 = ⟨ad.block, ad.off + 3, none⟩ from by simp [Addr.add]] at b0
                    exact b0
                  generalize checkQ xa (d + 1) = ra at *
                  generalize checkQ xb (d + 1) = rb at *
                  clear hq ck cp hKr hk2 hl0 hxa hxb
                  cases ra
                  · go_wp2_with (first | ((with_reducible refine ca0.mono ?_); rintro e w2 ⟨rfl, hb2⟩; (first | ((with_reducible obtain ⟨p, hw''⟩ := In.of2 p hb2); subst hw'') | (obtain ⟨p, hw''⟩ := In.of hb2; subst hw''))))
                    go_ret
                    exact ⟨ret_bool (by rw [hR.out]; rfl), p.back bkr⟩
                  · go_wp2_with (first | ((with_reducible refine ca0.mono ?_); rintro e w2 ⟨rfl, hb2⟩; (first | ((with_reducible obtain ⟨p, hw''⟩ := In.of2 p hb2); subst hw'') | (obtain ⟨p, hw''⟩ := In.of hb2; subst hw''))) | ((with_reducible refine (cb1 _).mono ?_); rintro e w3 ⟨rfl, hb3⟩; (first | ((with_reducible obtain ⟨p, hw''⟩ := In.of2 p hb3); subst hw'') | (obtain ⟨p, hw''⟩ := In.of hb3; subst hw''))))
                    go_ret
                    exact ⟨ret_bool (by rw [hR.out]; rfl), p.back bkr⟩
                · have hk2' : ((kids.length : Int) == 2) = false := by rw [beq_eq_false_iff_ne]; omega
                  have hR := Lib.hid (show R = false by rw [hq.out, show shapeQ [111, 114] l.length kids.length = false by simp [shapeQ, hk2]]; simp)
                  clear hq ck cp hKr hk2 hl0
                  go_wp2_with fail
                  go_ret
                  exact ⟨ret_bool hR.out.symm, bkr⟩
              · have hl0' : ((l.length : Int) == 0) = false := by rw [beq_eq_false_iff_ne]; omega
                have hR := Lib.hid (show R = false by rw [hq.out, show shapeQ [111, 114] l.length kids.length = false by simp [shapeQ, hl0]]; simp)
                clear hq ck cp hKr hl0
                go_wp2_with fail
                go_ret
                exact ⟨ret_bool hR.out.symm, bkr⟩
            by_cases o3 : op = [110, 111, 116]
            · subst o3
              by_cases hl0 : l.length = 0
              · have hl0' : ((l.length : Int) == 0) = true := by rw [beq_iff_eq]; omega
                by_cases hk2 : kids.length = 1
                · have hk2' : ((kids.length : Int) == 1) = true := by rw [beq_iff_eq]; omega
                  have hi0 : (0 : Int) < kids.length := by omega
                  obtain ⟨ad, opa, Ba, na, ca, Ja, jna, jca, rfl, hxa, hata⟩ := hKr 0 kids[0] (by simp)
                  rw [show ad.add (0 * 3) = ad from rfl] at hata
                  have ca0 := ck 0 kids[0] (by simp) _ wr hxa
                  have hR := Lib.hid (show R = checkQ kids[0] (d + 1) by
                    rw [hq.out, show shapeQ [110, 111, 116] l.length kids.length = true by simp [shapeQ, hk2, hl0], Bool.true_and]
                    match kids, hk2 with
                    | [x], _ => simp [checkQL])
                  generalize kids[0] = xa at *
                  obtain ⟨a6, a0, a1, a2⟩ := hata
                  generalize checkQ xa (d + 1) = ra at *
                  clear hq ck cp hKr hk2 hl0 hxa
                  go_wp2_with (first | ((with_reducible refine ca0.mono ?_); rintro e w2 ⟨rfl, hb2⟩; (first | ((with_reducible obtain ⟨p, hw''⟩ := In.of2 p hb2); subst hw'') | (obtain ⟨p, hw''⟩ := In.of hb2; subst hw''))))
                  go_ret
                  exact ⟨ret_bool hR.out.symm, p.back bkr⟩
                · have hk2' : ((kids.length : Int) == 1) = false := by rw [beq_eq_false_iff_ne]; omega
                  have hR := Lib.hid (show R = false by rw [hq.out, show shapeQ [110, 111, 116] l.length kids.length = false by simp [shapeQ, hk2]]; simp)
                  clear hq ck cp hKr hk2 hl0
                  go_wp2_with fail
                  go_ret
                  exact ⟨ret_bool hR.out.symm, bkr⟩
              · have hl0' : ((l.length : Int) == 0) = false := by rw [beq_eq_false_iff_ne]; omega
                have hR := Lib.hid (show R = false by rw [hq.out, show shapeQ [110, 111, 116] l.length kids.length = false by simp [shapeQ, hl0]]; simp)
                clear hq ck cp hKr hl0
                go_wp2_with fail
                go_ret
                exact ⟨ret_bool hR.out.symm, bkr⟩
            have e1 : (op == [97, 110, 100]) = false := by simpa using o1
            have e2 : (op == [111, 114]) = false := by simpa using o2
            have e3 : (op == [110, 111, 116]) = false := by simpa using o3
            have hS := Lib.hid (show R = (predsB op && decide (kids.length = 0) && (decide (rpredsN op < 0) || decide ((l.length : Int) = rpredsN op))) by
              rw [hq.out, ← rpreds_eq]
              have hle : l.length ≤ 12 := by omega
              simp only [shapeQ, o1, o2, o3, or_self, if_false, decide_eq_true hle, Bool.true_and]
              by_cases hk0 : kids.length = 0
              · rw [List.length_eq_zero_iff.1 hk0]; simp [checkQL]
              · simp [hk0])
            clear o1 o2 o3 hq ck hKr
            generalize predsB op = pb at *
            generalize rpredsN op = pn at *
            cases pb
            · have hR := Lib.hid (show R = false by rw [hS.out]; simp)
              clear hS
              go_wp2_with (first | ((with_reducible refine (cp _).mono ?_); rintro e w2 ⟨rfl, hb2⟩; (first | ((with_reducible obtain ⟨p, hw''⟩ := In.of2 p hb2); subst hw'') | (obtain ⟨p, hw''⟩ := In.of hb2; subst hw''))))
              go_ret
              exact ⟨ret_bool hR.out.symm, p.back bkr⟩
            · by_cases hk0 : kids.length = 0
              · have hk0' : ((kids.length : Int) == 0) = true := by rw [beq_iff_eq]; omega
                by_cases hn : pn < 0
                · have hR := Lib.hid (show R = true by rw [hS.out, decide_eq_true hk0, decide_eq_true hn]; simp)
                  clear hS hk0
                  go_wp2_with (first | ((with_reducible refine (cp _).mono ?_); rintro e w2 ⟨rfl, hb2⟩; (first | ((with_reducible obtain ⟨p, hw''⟩ := In.of2 p hb2); subst hw'') | (obtain ⟨p, hw''⟩ := In.of hb2; subst hw''))))
                  go_ret
                  exact ⟨ret_bool (by first | exact hR.out.symm | (rw [hR.out]; exact decide_eq_false (by omega))), p.back bkr⟩
                · by_cases he : (l.length : Int) = pn
                  · have he' : ((l.length : Int) == pn) = true := by simpa using he
                    have hR := Lib.hid (show R = true by rw [hS.out, decide_eq_true hk0, decide_eq_true he]; simp)
                    clear hS hk0 he
                    go_wp2_with (first | ((with_reducible refine (cp _).mono ?_); rintro e w2 ⟨rfl, hb2⟩; (first | ((with_reducible obtain ⟨p, hw''⟩ := In.of2 p hb2); subst hw'') | (obtain ⟨p, hw''⟩ := In.of hb2; subst hw''))))
                    go_ret
                    exact ⟨ret_bool (by first | exact hR.out.symm | (rw [hR.out]; exact decide_eq_false (by omega))), p.back bkr⟩
                  · have he' : ((l.length : Int) == pn) = false := by simpa using he
                    have hR := Lib.hid (show R = false by rw [hS.out, decide_eq_false he, decide_eq_false hn]; simp)
                    clear hS hk0 he
                    go_wp2_with (first | ((with_reducible refine (cp _).mono ?_); rintro e w2 ⟨rfl, hb2⟩; (first | ((with_reducible obtain ⟨p, hw''⟩ := In.of2 p hb2); subst hw'') | (obtain ⟨p, hw''⟩ := In.of hb2; subst hw''))))
                    go_ret
                    exact ⟨ret_bool (by first | exact hR.out.symm | (rw [hR.out]; exact decide_eq_false (by omega))), p.back bkr⟩
              · have hk0' : ((kids.length : Int) == 0) = false := by rw [beq_eq_false_iff_ne]; omega
                have hR := Lib.hid (show R = false by rw [hS.out, decide_eq_false hk0]; simp)
                clear hS hk0
                go_wp2_with (first | ((with_reducible refine (cp _).mono ?_); rintro e w2 ⟨rfl, hb2⟩; (first | ((with_reducible obtain ⟨p, hw''⟩ := In.of2 p hb2); subst hw'') | (obtain ⟨p, hw''⟩ := In.of hb2; subst hw''))))
                go_ret
                exact ⟨ret_bool (by first | exact hR.out.symm | (rw [hR.out]; exact decide_eq_false (by omega))), p.back bkr⟩
end Go.Proofs.Ytglcnnnjdkjggaa
