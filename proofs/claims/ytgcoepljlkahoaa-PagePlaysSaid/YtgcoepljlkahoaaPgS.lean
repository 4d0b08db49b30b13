
/-
  PageReads' walk: printed by mkreads.py.
-/
import Derived.Test.YtgcoepljlkahoaaPgQ
import Derived.Test.YtgcoepljlkahoaaPgO
import Derived.Test.YtgcoepljlkahoaaPgG
set_option linter.unusedSimpArgs false
set_option linter.unusedVariables false
namespace Go.Proofs.Ytgcoepljlkahoaa
open Go.RowKit

theorem bn_take (s : List UInt8) (m k : Nat) (h : k < m) : bn (s.take m) k = bn s k := by
  unfold bn
  rw [List.getD_eq_getElem?_getD, List.getD_eq_getElem?_getD, List.getElem?_take_of_lt h]
theorem bn_drop (s : List UInt8) (m k : Nat) : bn (s.drop m) k = bn s (m + k) := by
  unfold bn
  rw [List.getD_eq_getElem?_getD, List.getD_eq_getElem?_getD, List.getElem?_drop]
theorem bn_two (n : Nat) (h : n < 65536) : bn (twoL (n : Int)) 0 * 256 + bn (twoL (n : Int)) 1 = n := by
  have e0 := byte_toNat ((n : Int) / 256 % 256) (by omega)
  have e1 := byte_toNat ((n : Int) % 256) (by omega)
  have b0 : bn (twoL (n : Int)) 0 = (byte ((n : Int) / 256 % 256)).toNat := rfl
  have b1 : bn (twoL (n : Int)) 1 = (byte ((n : Int) % 256)).toNat := rfl
  omega
theorem cnt_enc {l : List Rec} {s : List UInt8} (h : l.length ≤ 42) (he : encL l = s) : cntB s = l.length := by
  have ht := enc_two l
  rw [he] at ht
  unfold cntB
  rw [← bn_take s 2 0 (by omega), ← bn_take s 2 1 (by omega), ht]
  exact bn_two _ (by omega)
theorem rec_enc {l : List Rec} {s : List UInt8} {i : Nat} {b : Rec} (hb : l[i]? = some b) (hu : usedN l ≤ 512) (hid : b.1 ≤ 18446744073709551615) (he : encL l = s) : fits s i ∧ recAt s i = b := by
  obtain ⟨h8, h10, h12, htx, hat⟩ := enc_slot hb hu
  rw [he] at h8 h10 h12 htx
  have ha : atB (s.drop (2 + 12 * i)) = atN l i := by
    unfold atB
    have e0 : bn (s.drop (2 + 12 * i)) 8 = bn (((s.drop (2 + 12 * i)).take 10).drop 8) 0 := by rw [bn_drop _ 8, bn_take _ 10 _ (by omega)]
    have e1 : bn (s.drop (2 + 12 * i)) 9 = bn (((s.drop (2 + 12 * i)).take 10).drop 8) 1 := by rw [bn_drop _ 8, bn_take _ 10 _ (by omega)]
    rw [e0, e1, h10]
    exact bn_two _ (by omega)
  have hl : longB (s.drop (2 + 12 * i)) = b.2.length := by
    unfold longB
    have e0 : bn (s.drop (2 + 12 * i)) 10 = bn (((s.drop (2 + 12 * i)).take 12).drop 10) 0 := by rw [bn_drop _ 10, bn_take _ 12 _ (by omega)]
    have e1 : bn (s.drop (2 + 12 * i)) 11 = bn (((s.drop (2 + 12 * i)).take 12).drop 10) 1 := by rw [bn_drop _ 10, bn_take _ 12 _ (by omega)]
    rw [e0, e1, h12]
    exact bn_two _ (by omega)
  have hw : wide (((s.drop (2 + 12 * i)).take 8).take 8) = b.1 := by
    have h := wide8 (b.1 : Int) (by omega) (by omega)
    rw [h8]
    unfold wideN at h
    exact Int.ofNat.inj h
  refine ⟨?_, ?_⟩
  · unfold fits
    rw [ha, hl]
    exact hat
  · unfold recAt
    rw [ha, hl, hw, htx]
theorem recs_enc {l : List Rec} {s : List UInt8} (hu : usedN l ≤ 512) (hid : ∀ b ∈ l, b.1 ≤ 18446744073709551615) (he : encL l = s) : recs s l.length = l := by
  apply List.ext_getElem?
  intro i
  by_cases hi : i < l.length
  · rw [recs_get hi, (rec_enc (b := l[i]) (by simp) hu (hid l[i] (by simp)) he).2]
    simp
  · rw [List.getElem?_eq_none (by rw [recs_len]; omega), List.getElem?_eq_none (by omega)]
theorem getOk_of {l : List Rec} {s : List UInt8} (hr : Rises l) (hu : usedN l ≤ 512) (hid : ∀ b ∈ l, b.1 ≤ 18446744073709551615) (he : encL l = s) : GetOk s ∧ recs s (cntB s) = l := by
  have hll : l.length ≤ 42 := by unfold usedN at hu; omega
  have hc := cnt_enc hll he
  have hR := recs_enc hu hid he
  rw [← hc] at hR
  refine ⟨⟨by omega, fun j hj => ?_, by rw [hR]; exact hr, by rw [hR]; exact hu, by rw [hR]; exact he⟩, hR⟩
  rw [hc] at hj
  exact (rec_enc (b := l[j]) (by simp) hu (hid l[j] (by simp)) he).1
theorem isPage_of {s : List UInt8} (h : GetOk s) : IsPage s := ⟨recs s (cntB s), h.rise, h.room, recs_id s _, h.enc⟩
set_option maxRecDepth 8000 in
theorem rgetShort_c (s : List UInt8) (w : World) (hs : s.length < 512) : Calls Try.prog 12 #[.string (st s)] w fun e w' => e = .returned (.tuple #[.slice none 0 0, .int .i64 4]) ∧ Below w.heap.size w w' := by
  have hl : (s.length : Int) < 512 := by omega
  go_enter Try.func12, Try.ntmps12
  go_wp2_with fail
  exact bodyPost_ret (v := .tuple #[.slice none 0 0, .int .i64 4]) (by simp only [results, Try.results12]; go_simp) rfl ⟨rfl, Below.refl _ _⟩
set_option maxRecDepth 8000 in
theorem rgetLong_c (s : List UInt8) (w : World) (hs : 512 < s.length) : Calls Try.prog 12 #[.string (st s)] w fun e w' => e = .returned (.tuple #[.slice none 0 0, .int .i64 5]) ∧ Below w.heap.size w w' := by
  have hl : (512 : Int) < s.length := by omega
  have hl2 : ¬ (s.length : Int) < 512 := by omega
  go_enter Try.func12, Try.ntmps12
  go_wp2_with fail
  exact bodyPost_ret (v := .tuple #[.slice none 0 0, .int .i64 5]) (by simp only [results, Try.results12]; go_simp) rfl ⟨rfl, Below.refl _ _⟩
/-- bytes that are no page's are refused by both -/
theorem none_c (s : List UInt8) (h : ¬ (s.length = 512 ∧ IsPage s)) : ∃ c : Int, ¬ c = 0 ∧ (∀ w, Calls Try.prog 11 #[.string (st s)] w fun e w' => e = .returned (.tuple #[.pointer none, .int .i64 c]) ∧ Below w.heap.size w w') ∧
    ∀ w, Calls Try.prog 12 #[.string (st s)] w fun e w' => e = .returned (.tuple #[.slice none 0 0, .int .i64 c]) ∧ Below w.heap.size w w' := by
  rcases Nat.lt_trichotomy s.length 512 with h1 | h1 | h1
  · exact ⟨4, by decide, fun w => decShort_c s w h1, fun w => rgetShort_c s w h1⟩
  · have hn : ¬ IsPage s := fun hp => h ⟨h1, hp⟩
    refine ⟨6, by decide, fun w => decBad_c s w h1 hn, fun w => (rget_c s w h1).mono fun e w' hh => ?_⟩
    obtain ⟨hb, hh⟩ := hh
    rcases hh with ⟨hok, _⟩ | ⟨_, he⟩
    · exact absurd (isPage_of hok) hn
    · exact ⟨he, hb⟩
  · exact ⟨5, by decide, fun w => decLong_c s w h1, fun w => rgetLong_c s w h1⟩
set_option maxRecDepth 8000 in
set_option maxHeartbeats 4000000 in
theorem pageReads_walk (s : List UInt8) (w : World) (hs : s.length ≤ maxLen) :
    Calls Try.prog 4 #[.string (st s)] w fun e w' => e = .returned (.bool true) ∧ Below w.heap.size w w' := by
  unfold maxLen at hs
  go_enter Try.func4, Try.ntmps4
  by_cases h600 : 600 < s.length
  · have h600' : (600 : Int) < s.length := by omega
    have h601 : (600 : Int) ≤ s.length := by omega
    go_upto_region 3 with fail
    clear h600' h601
    by_cases hP : (s.take 600).length = 512 ∧ IsPage (s.take 600)
    · obtain ⟨hD, l, hr, hu, hid, he⟩ := hP
      have hll : l.length ≤ 42 := by unfold usedN at hu; omega
      have cd := decode_c l w hr hu hid
      rw [he] at cd
      obtain ⟨hok, hrec⟩ := getOk_of hr hu hid he
      have cg := fun w => rget_c (s.take 600) w hD
      unfold RGetEnds at cg
      unfold DecEnds at cd
      rw [hrec] at cg
      have cen := fun base g v w (hp : PageAt w base g v l (usedN l : Int)) => enc_c base g v l _ w hp hu
      unfold StrEnds at cen
      rw [he] at cen
      have cal := fun base g v w (hp : PageAt w base g v l (usedN l : Int)) => all_c base g v l _ w hp (by omega)
      unfold BodiesEnds at cal
      have csa := fun A B ca cb w (ha : BodiesAt w A l) (hb : BodiesAt w B l) => same_c A B ca cb l w ha hb (by omega)
      have hokh := Lib.hid hok
      have hgone := Lib.hid (And.intro hr (And.intro hu (And.intro hid he)))
      clear hok hrec hr hu hid he hgone
      generalize (s.take 600) = D at *
      go_upto_region 4 with ((with_reducible refine cd.mono ?_); rintro e w1 ⟨g, v, rfl, hp1, hb1⟩)
      have cg1 := cg w1
      go_upto_region 5 with ((with_reducible refine cg1.mono ?_); rintro e w2 ⟨hb2, h2⟩; rcases h2 with ⟨_, A2, c2, he2, hB2⟩ | ⟨hno, _⟩; rotate_left; (exact absurd hokh.out hno); subst he2)
      have hp2 := hp1.keep hb2
      have hbw2 := hb1.trans (hb2.mono hb1.size)
      clear cd cg cg1 hp1 hb1 hb2
      have aw := awake_c w2
      go_upto_region 6 with (first | ((with_reducible refine aw.mono ?_); rintro e w3 ⟨rfl, hb3⟩; have hp3 := hp2.keep hb3; have hB3 := hB2.keep hb3; have hbw3 := hbw2.trans (hb3.mono hbw2.size); have cal3 := cal _ _ _ _ hp3) | ((with_reducible refine cal3.mono ?_); rintro e w4 ⟨A4, c4, rfl, hB4, hb4⟩; have hp4 := hp3.keep hb4; have hB24 := hB3.keep hb4; have hbw4 := hbw3.trans (hb4.mono hbw3.size); have csa4 := csa A4 A2 c4 c2 _ hB4 hB24) | ((with_reducible refine csa4.mono ?_); rintro e w5 ⟨rfl, hb5⟩; have hp5 := hp4.keep hb5; have hbw5 := hbw4.trans (hb5.mono hbw4.size); have cen5 := cen _ _ _ _ hp5) | ((with_reducible refine cen5.mono ?_); rintro e w6 ⟨rfl, hb6⟩; have hbw6 := hbw5.trans (hb6.mono hbw5.size)))
      go_ret
      exact ⟨rfl, hbw6⟩
    · obtain ⟨c, hc0, cd, cg⟩ := none_c (s.take 600) hP
      clear hP
      generalize (s.take 600) = D at *
      have cd1 := cd w
      go_upto_region 4 with ((with_reducible refine cd1.mono ?_); rintro e w1 ⟨rfl, hb1⟩)
      have cg1 := cg w1
      go_upto_region 5 with ((with_reducible refine cg1.mono ?_); rintro e w2 ⟨rfl, hb2⟩)
      have hbw2 := hb1.trans (hb2.mono hb1.size)
      clear cd cd1 cg cg1 hb1 hb2
      have aw := awake_c w2
      have csn := fun w => same_c none none 0 0 [] w (fun i b h => by simp at h) (fun i b h => by simp at h) (by simp)
      have can := fun w => allNone_c w
      simp only [List.length_nil] at csn
      go_upto_region 6 with (first | ((with_reducible refine aw.mono ?_); rintro e w3 ⟨rfl, hb3⟩; have hbw3 := hbw2.trans (hb3.mono hbw2.size)) | ((with_reducible refine (can _).mono ?_); rintro e w4 ⟨rfl, hb4⟩; have hbw4 := hbw3.trans (hb4.mono hbw3.size)) | ((with_reducible refine (csn _).mono ?_); rintro e w5 ⟨rfl, hb5⟩; have hbw5 := hbw4.trans (hb5.mono hbw4.size)))
      go_ret
      exact ⟨rfl, hbw5⟩
  · have h600' : ¬ (600 : Int) < s.length := by omega
    go_upto_region 3 with fail
    clear h600'
    by_cases hP : s.length = 512 ∧ IsPage s
    · obtain ⟨hD, l, hr, hu, hid, he⟩ := hP
      have hll : l.length ≤ 42 := by unfold usedN at hu; omega
      have cd := decode_c l w hr hu hid
      rw [he] at cd
      obtain ⟨hok, hrec⟩ := getOk_of hr hu hid he
      have cg := fun w => rget_c s w hD
      unfold RGetEnds at cg
      unfold DecEnds at cd
      rw [hrec] at cg
      have cen := fun base g v w (hp : PageAt w base g v l (usedN l : Int)) => enc_c base g v l _ w hp hu
      unfold StrEnds at cen
      rw [he] at cen
      have cal := fun base g v w (hp : PageAt w base g v l (usedN l : Int)) => all_c base g v l _ w hp (by omega)
      unfold BodiesEnds at cal
      have csa := fun A B ca cb w (ha : BodiesAt w A l) (hb : BodiesAt w B l) => same_c A B ca cb l w ha hb (by omega)
      have hokh := Lib.hid hok
      have hgone := Lib.hid (And.intro hr (And.intro hu (And.intro hid he)))
      clear hok hrec hr hu hid he hgone
      skip
      go_upto_region 4 with ((with_reducible refine cd.mono ?_); rintro e w1 ⟨g, v, rfl, hp1, hb1⟩)
      have cg1 := cg w1
      go_upto_region 5 with ((with_reducible refine cg1.mono ?_); rintro e w2 ⟨hb2, h2⟩; rcases h2 with ⟨_, A2, c2, he2, hB2⟩ | ⟨hno, _⟩; rotate_left; (exact absurd hokh.out hno); subst he2)
      have hp2 := hp1.keep hb2
      have hbw2 := hb1.trans (hb2.mono hb1.size)
      clear cd cg cg1 hp1 hb1 hb2
      have aw := awake_c w2
      go_upto_region 6 with (first | ((with_reducible refine aw.mono ?_); rintro e w3 ⟨rfl, hb3⟩; have hp3 := hp2.keep hb3; have hB3 := hB2.keep hb3; have hbw3 := hbw2.trans (hb3.mono hbw2.size); have cal3 := cal _ _ _ _ hp3) | ((with_reducible refine cal3.mono ?_); rintro e w4 ⟨A4, c4, rfl, hB4, hb4⟩; have hp4 := hp3.keep hb4; have hB24 := hB3.keep hb4; have hbw4 := hbw3.trans (hb4.mono hbw3.size); have csa4 := csa A4 A2 c4 c2 _ hB4 hB24) | ((with_reducible refine csa4.mono ?_); rintro e w5 ⟨rfl, hb5⟩; have hp5 := hp4.keep hb5; have hbw5 := hbw4.trans (hb5.mono hbw4.size); have cen5 := cen _ _ _ _ hp5) | ((with_reducible refine cen5.mono ?_); rintro e w6 ⟨rfl, hb6⟩; have hbw6 := hbw5.trans (hb6.mono hbw5.size)))
      go_ret
      exact ⟨rfl, hbw6⟩
    · obtain ⟨c, hc0, cd, cg⟩ := none_c s hP
      clear hP
      skip
      have cd1 := cd w
      go_upto_region 4 with ((with_reducible refine cd1.mono ?_); rintro e w1 ⟨rfl, hb1⟩)
      have cg1 := cg w1
      go_upto_region 5 with ((with_reducible refine cg1.mono ?_); rintro e w2 ⟨rfl, hb2⟩)
      have hbw2 := hb1.trans (hb2.mono hb1.size)
      clear cd cd1 cg cg1 hb1 hb2
      have aw := awake_c w2
      have csn := fun w => same_c none none 0 0 [] w (fun i b h => by simp at h) (fun i b h => by simp at h) (by simp)
      have can := fun w => allNone_c w
      simp only [List.length_nil] at csn
      go_upto_region 6 with (first | ((with_reducible refine aw.mono ?_); rintro e w3 ⟨rfl, hb3⟩; have hbw3 := hbw2.trans (hb3.mono hbw2.size)) | ((with_reducible refine (can _).mono ?_); rintro e w4 ⟨rfl, hb4⟩; have hbw4 := hbw3.trans (hb4.mono hbw3.size)) | ((with_reducible refine (csn _).mono ?_); rintro e w5 ⟨rfl, hb5⟩; have hbw5 := hbw4.trans (hb5.mono hbw4.size)))
      go_ret
      exact ⟨rfl, hbw5⟩
end Go.Proofs.Ytgcoepljlkahoaa
