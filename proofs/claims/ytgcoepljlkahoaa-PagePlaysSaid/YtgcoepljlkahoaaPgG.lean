
/-
  Pages: awake; a nil page (PageNone, walked).
-/
import Derived.Test.YtgcoepljlkahoaaPgF
set_option linter.unusedSimpArgs false
set_option linter.unusedVariables false
namespace Go.Proofs.Ytgcoepljlkahoaa
open Go.RowKit

theorem rises_nil : Rises [] := fun i j a b _ h => by simp at h
theorem rises_one (b : Rec) : Rises [b] := fun i j x y hij hx hy => by
  have h1 := (List.getElem?_eq_some_iff.1 hx).1
  have h2 := (List.getElem?_eq_some_iff.1 hy).1
  simp at h1 h2
  omega
theorem place_one {b : Rec} {i : Nat} (h : Place [b] b.1 i) : i = 0 := by
  have h1 := h.le
  simp at h1
  by_cases e : i = 0
  · exact e
  · have := h.lo 0 b (by omega) rfl
    omega
set_option maxRecDepth 8000 in
set_option maxHeartbeats 4000000 in
theorem awake_c (w : World) : Calls Try.prog 10 #[] w fun e w' => e = .returned (.bool true) ∧ Below w.heap.size w w' := by
  have c1 := new_c w.heap.size w (Nat.le_refl _)
  have c2 : ∀ w1, PageAt w1 w.heap.size w.heap.size (.slice none 0 0) [] 2 → Below w.heap.size w w1 → Calls Try.prog 8 #[.pointer (some ⟨w.heap.size, 0, none⟩), .int .u64 7, .string (st [116, 101, 120, 116])] w1 fun e w2 => e = .returned (.bool true) ∧ Below w.heap.size w1 w2 ∧ ∃ v, PageAt w2 w.heap.size w.heap.size v [(7, [116, 101, 120, 116])] 18 := fun w1 hp hb => by
    have := putEnd_c w.heap.size w.heap.size (.slice none 0 0) [] 2 (7, [116, 101, 120, 116]) w1 hp hb.size rises_nil (fun x hx => by cases hx) (by simp) (by omega) (by simp)
    refine this.mono fun e w2 ⟨h1, h2⟩ => ?_
    rcases h2 with ⟨_, he, v, hv⟩ | ⟨hn, _⟩
    · exact ⟨he, h1, v, hv⟩
    · exact absurd (by simp) hn
  have c3 : ∀ v w1, PageAt w1 w.heap.size w.heap.size v [(7, [116, 101, 120, 116])] 18 → Calls Try.prog 15 #[.pointer (some ⟨w.heap.size, 0, none⟩)] w1 fun e w2 => e = .returned (.string (st (encL [(7, [116, 101, 120, 116])]))) ∧ Below w1.heap.size w1 w2 := fun v w1 hp => enc_c _ _ v _ _ w1 hp (by simp [usedN, sumL])
  have c4 : ∀ w1, Calls Try.prog 11 #[.string (st (encL [(7, [116, 101, 120, 116])]))] w1 fun e w2 => ∃ g v, e = .returned (.tuple #[.pointer (some ⟨g, 0, none⟩), .int .i64 0]) ∧ PageAt w2 w1.heap.size g v [(7, [116, 101, 120, 116])] 18 ∧ Below w1.heap.size w1 w2 := fun w1 => decode_c _ w1 (rises_one _) (by simp [usedN, sumL]) (by simp)
  have c5 : ∀ base g v w1, PageAt w1 base g v [(7, [116, 101, 120, 116])] 18 → Calls Try.prog 21 #[.pointer (some ⟨g, 0, none⟩), .int .u64 7] w1 fun e w2 => e = .returned (.tuple #[.string (st [116, 101, 120, 116]), .bool true]) ∧ Below w1.heap.size w1 w2 := fun base g v w1 hp => by
    refine (get_c base g v _ _ 7 w1 hp (rises_one _) (by simp)).mono fun e w2 ⟨i, h1, h2, h3⟩ => ?_
    have hi := place_one h2
    subst hi
    exact ⟨h1, h3⟩
  generalize encL [(7, [116, 101, 120, 116])] = D at *
  go_enter Try.func10, Try.ntmps10
  go_upto_region 3 with (first | ((with_reducible refine c1.mono ?_); rintro e w1 ⟨rfl, hp1, _, hb1⟩) | ((with_reducible refine (c2 _ hp1 hb1).mono ?_); rintro e w2 ⟨rfl, hb2, v2, hp2⟩))
  have hb12 := hb1.trans hb2
  clear c1 c2 hp1 hb1 hb2
  have c3 := c3 v2 w2 hp2
  go_upto_region 4 with (first | ((with_reducible refine c3.mono ?_); rintro e w3 ⟨rfl, hb3⟩) | ((with_reducible refine (c4 _).mono ?_); rintro e w4 ⟨g, v, rfl, hp4, hb4⟩))
  have hb14 := (hb12.trans (hb3.mono hb12.size)).trans (hb4.mono (hb12.trans (hb3.mono hb12.size)).size)
  have c5 := c5 _ g v w4 hp4
  clear c3 c4 hp2 hp4 hb3 hb4 hb12
  go_wp2_with ((with_reducible refine c5.mono ?_); rintro e w5 ⟨rfl, hb5⟩)
  go_ret
  exact ⟨rfl, hb14.trans (hb5.mono hb14.size)⟩
set_option maxRecDepth 8000 in
theorem getNone_c (id : Int) (w : World) : Calls Try.prog 21 #[.pointer none, .int .u64 id] w fun e w' => e = .returned (.tuple #[.string (st []), .bool false]) ∧ Below w.heap.size w w' := by
  go_enter Try.func21, Try.ntmps21
  go_wp2_with fail
  exact bodyPost_ret (v := .tuple #[.string (st []), .bool false]) (by simp only [results, Try.results21]; go_simp) rfl ⟨rfl, Below.refl _ _⟩
set_option maxRecDepth 8000 in
theorem putNone_c (id : Int) (s : List UInt8) (w : World) : Calls Try.prog 8 #[.pointer none, .int .u64 id, .string (st s)] w fun e w' => e = .returned (.bool false) ∧ Below w.heap.size w w' := by
  go_enter Try.func8, Try.ntmps8
  go_wp2_with fail
  go_ret
  exact ⟨rfl, Below.refl _ _⟩
set_option maxRecDepth 8000 in
theorem dropNone_c (id : Int) (w : World) : Calls Try.prog 17 #[.pointer none, .int .u64 id] w fun e w' => e = .returned (.bool false) ∧ Below w.heap.size w w' := by
  go_enter Try.func17, Try.ntmps17
  go_wp2_with fail
  go_ret
  exact ⟨rfl, Below.refl _ _⟩
set_option maxRecDepth 8000 in
theorem freeNone_c (w : World) : Calls Try.prog 9 #[.pointer none] w fun e w' => e = .returned (.int .i64 0) ∧ Below w.heap.size w w' := by
  go_enter Try.func9, Try.ntmps9
  go_wp2_with fail
  go_ret
  exact ⟨rfl, Below.refl _ _⟩
set_option maxRecDepth 8000 in
theorem allNone_c (w : World) : Calls Try.prog 14 #[.pointer none] w fun e w' => e = .returned (.slice none 0 0) ∧ Below w.heap.size w w' := by
  go_enter Try.func14, Try.ntmps14
  go_wp2_with fail
  go_ret
  exact ⟨rfl, Below.refl _ _⟩
set_option maxRecDepth 8000 in
theorem encNone_c (w : World) : Calls Try.prog 15 #[.pointer none] w fun e w' => e = .returned (.string (st [])) ∧ Below w.heap.size w w' := by
  go_enter Try.func15, Try.ntmps15
  go_wp2_with fail
  go_ret
  exact ⟨rfl, Below.refl _ _⟩
set_option maxRecDepth 8000 in
set_option maxHeartbeats 4000000 in
theorem pageNone_walk (id : Int) (s : List UInt8) (w : World) : Calls Try.prog 6 #[.int .u64 id, .string (st s)] w fun e w' => e = .returned (.bool true) ∧ Below w.heap.size w w' := by
  have c1 := getNone_c id w
  have aw := fun w => awake_c w
  have c2 := fun w => putNone_c id s w
  have c3 := fun w => dropNone_c id w
  have c4 := fun w => freeNone_c w
  have c5 := fun w => allNone_c w
  have c6 := fun w => encNone_c w
  go_enter Try.func6, Try.ntmps6
  go_upto_region 3 with ((with_reducible refine c1.mono ?_); rintro e w1 ⟨rfl, hb1⟩)
  have d1 := aw w1
  have bk := hb1
  clear hb1 c1
  go_wp2_with (first | ((with_reducible refine d1.mono ?_); rintro e w2 ⟨rfl, hb2⟩; (first | ((with_reducible obtain ⟨p, hw''⟩ := In.of2 p hb2); subst hw'') | (obtain ⟨p, hw''⟩ := In.of hb2; subst hw''))) | ((with_reducible refine (c2 _).mono ?_); rintro e w2 ⟨rfl, hb2⟩; (first | ((with_reducible obtain ⟨p, hw''⟩ := In.of2 p hb2); subst hw'') | (obtain ⟨p, hw''⟩ := In.of hb2; subst hw''))) | ((with_reducible refine (c3 _).mono ?_); rintro e w2 ⟨rfl, hb2⟩; (first | ((with_reducible obtain ⟨p, hw''⟩ := In.of2 p hb2); subst hw'') | (obtain ⟨p, hw''⟩ := In.of hb2; subst hw''))) | ((with_reducible refine (c4 _).mono ?_); rintro e w2 ⟨rfl, hb2⟩; (first | ((with_reducible obtain ⟨p, hw''⟩ := In.of2 p hb2); subst hw'') | (obtain ⟨p, hw''⟩ := In.of hb2; subst hw''))) | ((with_reducible refine (c5 _).mono ?_); rintro e w2 ⟨rfl, hb2⟩; (first | ((with_reducible obtain ⟨p, hw''⟩ := In.of2 p hb2); subst hw'') | (obtain ⟨p, hw''⟩ := In.of hb2; subst hw''))) | ((with_reducible refine (c6 _).mono ?_); rintro e w2 ⟨rfl, hb2⟩; (first | ((with_reducible obtain ⟨p, hw''⟩ := In.of2 p hb2); subst hw'') | (obtain ⟨p, hw''⟩ := In.of hb2; subst hw''))))
  go_ret
  exact ⟨rfl, p.back bk⟩
end Go.Proofs.Ytgcoepljlkahoaa
