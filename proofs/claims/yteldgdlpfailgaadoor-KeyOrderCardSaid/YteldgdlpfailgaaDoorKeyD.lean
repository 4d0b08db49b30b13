
/-
  KeyNames: the walk.
-/
import Derived.Test.YteldgdlpfailgaaDoorKeyC
import Derived.Test.YteldgdlpfailgaaDoorShelf
import Derived.Lib.SplitLaws
set_option linter.unusedSimpArgs false
set_option linter.unusedVariables false
namespace Go.Proofs.YteldgdlpfailgaaDoor
open Go.RowKit

theorem index_cons_ne (c : UInt8) (s : List UInt8) (h : c ≠ 0) : Lib.index (c :: s) [0] = if Lib.index s [0] == -1 then -1 else Lib.index s [0] + 1 := by
  have hp : ([0] : List UInt8).isPrefixOf (c :: s) = false := by simp [List.isPrefixOf]; exact fun e => h e.symm
  rw [Lib.index, hp]; simp
theorem index_zero (s : List UInt8) : Lib.index (0 :: s) [0] = 0 := by
  have hp : ([0] : List UInt8).isPrefixOf (0 :: s) = true := by simp [List.isPrefixOf]
  rw [Lib.index, hp]; simp
theorem replaceK_esc : ∀ s : List UInt8, Lib.replaceK [0] [0, 1] (s.count 0) s = escL s
  | [] => rfl
  | c :: s => by
    have ih := replaceK_esc s
    by_cases h : c = 0
    · subst h
      rw [List.count_cons_self, Lib.replaceK_hit [0] [0, 1] _ _ 0 (index_zero s)]
      simp only [List.take_zero, List.nil_append, List.length_singleton, Nat.zero_add, List.drop_succ_cons, List.drop_zero]
      rw [ih]
      simp [escL]
    · rw [List.count_cons_of_ne h]
      have he : escL (c :: s) = c :: escL s := by simp [escL, h]
      rw [he, ← ih]
      cases hk : s.count 0 with
      | zero => rfl
      | succ k =>
        have hpos : 0 < Lib.count s [0] := by rw [Lib.count_one]; omega
        obtain ⟨i, hi⟩ := Lib.index_of_count hpos
        have hi2 : Lib.index (c :: s) [0] = ((i + 1 : Nat) : Int) := by
          rw [index_cons_ne c s h, hi, if_neg (by simp <;> omega)] <;> omega
        rw [Lib.replaceK_hit [0] [0, 1] k s i hi, Lib.replaceK_hit [0] [0, 1] k (c :: s) (i + 1) hi2]
        simp [List.take_succ_cons]
theorem replace_esc (s : List UInt8) : Lib.replaceAll s [0] [0, 1] = escL s := by
  unfold Lib.replaceAll Lib.replace
  rw [if_neg (by decide)]
  unfold Lib.replaceNum
  rw [if_pos (.inl (by decide)), Lib.count_one]
  exact replaceK_esc s
theorem count_le_len (s : List UInt8) : Lib.count s [0] ≤ s.length := by rw [Lib.count_one]; exact List.count_le_length
theorem escL_len : ∀ s : List UInt8, (escL s).length ≤ 2 * s.length
  | [] => by simp [escL]
  | c :: s => by
    have := escL_len s
    unfold escL
    split <;> simp <;> omega
/-- where the library keeps how long a text may be for its own search -/
abbrev maxG : Nat := Tryd.laysM155_ren.g 1
theorem all_c (s : List UInt8) (m : Int) (w : World) (hs : s.length ≤ 140737488351232 / 4) (hm : w.cell? ⟨maxG, 0, none⟩ = some (.int .i64 m)) (hs2 : s.length < 4294967281) :
    Calls Tryd.prog 33 #[.string (st s), .string (st [0]), .string (st [0, 1])] w fun e w' => e = .returned (.string (st (escL s))) ∧ Below w.heap.size w w' := by
  have hcl := count_le_len s
  have h := Any.strings_ReplaceAll { Tryd.laysM155 with } Tryd.Builder_Extra_M155 (st s) (st [0]) (st [0, 1]) m w (by rw [st_size]; exact hs2) hm (by rw [st_size]; simp) (by
    rw [st_size, st_size]
    have : Lib.countB (st s) (st [0]) = Lib.count s [0] := by simp [Lib.countB]
    rw [this]
    simp
    omega)
  refine Calls.mono h fun e w' ⟨h1, h2⟩ => ⟨?_, h2⟩
  rw [h1]
  simp [replace_esc]
set_option maxRecDepth 8000 in
theorem text_c (s : List UInt8) (m : Int) (w : World) (hs : s.length ≤ 60000) (hm : w.cell? ⟨maxG, 0, none⟩ = some (.int .i64 m)) :
    Calls Tryd.prog 21 #[.string (st s)] w fun e w' => e = .returned (.string (st (nameL s))) ∧ Below w.heap.size w w' := by
  have ca := all_c s m w (by omega) hm (by omega)
  have hl := escL_len s
  have hsm : ¬ 9223372036854775807 < (escL s).length + 2 := by omega
  have hR := Lib.hid (show nameL s = escL s ++ [0, 0] from rfl)
  clear hl
  generalize escL s = E at *
  go_enter Tryd.func21, Tryd.ntmps21
  go_wp2_with ((with_reducible refine ca.mono ?_); rintro e w1 ⟨rfl, hb1⟩; (first | ((with_reducible obtain ⟨p, hw''⟩ := In.of2 p hb1); subst hw'') | (obtain ⟨p, hw''⟩ := In.of hb1; subst hw'')))
  go_ret
  exact ⟨ret_str (by first | exact hR.out.symm | (rw [hR.out] <;> simp)), p.back (Below.refl _ _)⟩
set_option maxRecDepth 8000 in
theorem name_c (s : List UInt8) (m : Int) (w : World) (hs : s.length ≤ 60000) (hm : w.cell? ⟨maxG, 0, none⟩ = some (.int .i64 m)) :
    Calls Tryd.prog 8 #[.string (st s)] w fun e w' => e = .returned (.string (st (nameL s))) ∧ Below w.heap.size w w' := by
  have ca := text_c s m w hs hm
  go_enter Tryd.func8, Tryd.ntmps8
  go_wp2_with ((with_reducible refine ca.mono ?_); rintro e w1 ⟨rfl, hb1⟩; (first | ((with_reducible obtain ⟨p, hw''⟩ := In.of2 p hb1); subst hw'') | (obtain ⟨p, hw''⟩ := In.of hb1; subst hw'')))
  go_ret
  exact ⟨rfl, p.back (Below.refl _ _)⟩
theorem escL_take {s : List UInt8} {i : Nat} {c : UInt8} (h : s[i]? = some c) : escL (s.take (i + 1)) = escL (s.take i) ++ (if c = 0 then [0, 1] else [c]) := by
  obtain ⟨hi, rfl⟩ := List.getElem?_eq_some_iff.1 h
  rw [List.take_succ_eq_append_getElem hi]
  have : ∀ a b : List UInt8, escL (a ++ b) = escL a ++ escL b := by
    intro a b
    induction a with
    | nil => rfl
    | cons x a ih => simp only [List.cons_append, escL]; split <;> simp [ih]
  rw [this]
  congr 1
set_option maxRecDepth 8000 in
set_option maxHeartbeats 1000000 in
theorem rname_c (s : List UInt8) (w : World) (hs : s.length ≤ 60000) :
    Calls Tryd.prog 10 #[.string (st s)] w fun e w' => e = .returned (.string (st (nameL s))) ∧ w = w' := by
  go_enter Tryd.func10, Tryd.ntmps10
  go_wp2
  go_loopw [3, 4] (fun a3 a4 wr => ∃ (i : Nat) (T : List UInt8), a3 = .string (st T) ∧ a4 = .int .i64 i ∧ i ≤ s.length ∧ Hid (T = escL (s.take i)) ∧ T.length ≤ 2 * i ∧ wr = w) (fun _ a _ => s.length - (intOf a).toNat)
  case atStart => exact ⟨0, [], rfl, rfl, Nat.zero_le _, rfl, by simp, rfl⟩
  case round =>
    obtain ⟨i, T, rfl, rfl, hi, hT, hl, rfl⟩ := hrel
    by_cases hil : i < s.length
    · have hil' : (i : Int) < s.length := by omega
      have wi : IntKind.i64.wrap ((i : Int) + 1) = (i : Int) + 1 := by rw [IntKind.wrap_i64]; omega
      obtain ⟨c, hc0⟩ : ∃ c, s[i] = c := ⟨_, rfl⟩
      have hb1 : ∀ h : i < s.length, s[i]'h = c := fun _ => hc0
      have hb : ∀ h : i < (st s).size, (st s)[i]'h = c := fun h => by show (s.toArray)[i]'_ = _; simp [hc0]
      have hst := Lib.hid (escL_take (s := s) (i := i) (c := c) (by simp [hc0, hil]))
      have hex : (⟨s.toArray⟩ : ByteArray).extract i (i + 1) = ⟨[c].toArray⟩ := by
        apply ByteArray.ext
        simp only [ByteArray.data_extract]
        apply Array.ext'
        simp [List.extract_eq_take_drop, List.take_drop]
        rw [List.take_succ_eq_append_getElem hil, List.drop_append_of_le_length (by simp; omega)]
        simp [hc0]
      have hle : (i : Int) + 1 ≤ s.length := by omega
      have hsm1 : ¬ 9223372036854775807 < T.length + 1 := by omega
      have hsm2 : ¬ 9223372036854775807 < T.length + 1 + 1 := by omega
      clear hc0
      by_cases hc : c = 0
      · subst hc
        have hR := Lib.hid (show T ++ [0] ++ [1] = escL (s.take (i + 1)) by rw [hst.out, if_pos rfl, ← hT.out]; simp)
        go_wp2_with fail
        exact ⟨⟨i + 1, T ++ [0] ++ [1], by simp, rfl, hil, hR.out, by simp; omega, by trivial⟩, by simp [intOf]; omega⟩
      · have hne : ((c.toNat : Int) == 0) = false := by
          have : c.toNat ≠ 0 := fun e => hc (UInt8.toNat_inj.1 e)
          simpa using this
        have hR := Lib.hid (show T ++ [c] = escL (s.take (i + 1)) by rw [hst.out, if_neg hc, ← hT.out])
        go_wp2_with fail
        exact ⟨⟨i + 1, T ++ [c], by simp, rfl, hil, hR.out, by simp; omega, by trivial⟩, by simp [intOf]; omega⟩
    · have hil' : ¬ (i : Int) < s.length := by omega
      have hR := Lib.hid (show T ++ [0, 0] = nameL s by rw [hT.out, List.take_of_length_le (by omega)]; rfl)
      have hsm1 : ¬ 9223372036854775807 < T.length + 2 := by omega
      go_wp2_with fail
      go_ret
      exact ⟨ret_str (by first | exact hR.out | (rw [← hR.out] <;> simp)), rfl⟩
set_option maxRecDepth 8000 in
set_option maxHeartbeats 4000000 in
theorem keyNames_in (s k : List UInt8) (w : World) (m : Int) (hm : w.cell? ⟨maxG, 0, none⟩ = some (.int .i64 m)) (hs : s.length ≤ 300) (hk : k.length ≤ 300) :
    ∀ t u : List UInt8, t.length ≤ maxLen → u.length ≤ maxLen → (if 300 < t.length then t.take 300 else t) = s → (if 300 < u.length then u.take 300 else u) = k →
    Calls Tryd.prog 3 #[.string (st t), .string (st u)] w fun e w' => e = .returned (.bool true) ∧ Below w.heap.size w w' := by
  intro t u ht hu hts huk
  unfold maxLen at ht hu
  have hg := World.block_lt_of_cell? w ⟨maxG, 0, none⟩ hm
  have c1 : ∀ w', Below w.heap.size w w' → Calls Tryd.prog 8 #[.string (st s)] w' fun e w'' => e = .returned (.string (st (nameL s))) ∧ Below w'.heap.size w' w'' := fun w' h => name_c s m w' (by omega) ((h.cell (p := ⟨maxG, 0, none⟩) hg).trans hm)
  have c2 : ∀ w', Below w.heap.size w w' → Calls Tryd.prog 8 #[.string (st k)] w' fun e w'' => e = .returned (.string (st (nameL k))) ∧ Below w'.heap.size w' w'' := fun w' h => name_c k m w' (by omega) ((h.cell (p := ⟨maxG, 0, none⟩) hg).trans hm)
  have c10 := c1 w (Below.refl _ _)
  have c20 := fun p : In w => c2 p.w p.h
  have c3 : ∀ w, Calls Tryd.prog 10 #[.string (st s)] w fun e w' => e = .returned (.string (st (nameL s))) ∧ w = w' := fun w => rname_c s w (by omega)
  have aw := fun w => awake_c w
  have h1 := name_less s k
  have h2 := name_eq s k
  have h3 := name_part s k
  have hl1 : (nameL s).length ≤ 602 := by have := escL_len s; unfold nameL; simp; omega
  have hl2 : (nameL k).length ≤ 602 := by have := escL_len k; unfold nameL; simp; omega
  have hP : s = k ∨ (s ≠ k ∧ ((nameL k).length < (nameL s).length ∨ ((nameL s).length ≤ (nameL k).length ∧ (nameL k).take (nameL s).length ≠ nameL s))) := by
    by_cases he : s = k
    · exact .inl he
    · refine .inr ⟨he, ?_⟩
      by_cases hlt : (nameL k).length < (nameL s).length
      · exact .inl hlt
      · refine .inr ⟨by omega, fun e => he (h3 ?_)⟩
        rw [List.prefix_iff_eq_take]
        exact e.symm
  clear c1 c2 h3 hm hg
  generalize hX : nameL s = X at *
  generalize hY : nameL k = Y at *
  have hX' := Lib.hid hX
  clear hX hY
  by_cases h1' : 300 < t.length
  · have h1i : (300 : Int) < t.length := by omega
    have h1l : (300 : Int) ≤ t.length := by omega
    rw [if_pos h1'] at hts
    have hx1 := take_st t 300
    rw [hts] at hx1
    by_cases h2' : 300 < u.length
    · have h2i : (300 : Int) < u.length := by omega
      have h2l : (300 : Int) ≤ u.length := by omega
      rw [if_pos h2'] at huk
      have hx2 := take_st u 300
      rw [huk] at hx2
      go_enter Tryd.func3, Tryd.ntmps3
      go_upto_region 6 with (first | ((with_reducible refine c10.mono ?_); rintro e w1 ⟨rfl, hb1⟩; (first | ((with_reducible obtain ⟨p, hw''⟩ := In.of2 p hb1); subst hw'') | (obtain ⟨p, hw''⟩ := In.of hb1; subst hw''))) | ((with_reducible refine (c20 _).mono ?_); rintro e w2 ⟨rfl, hb2⟩; (first | ((with_reducible obtain ⟨p, hw''⟩ := In.of2 p hb2); subst hw'') | (obtain ⟨p, hw''⟩ := In.of hb2; subst hw''))))
      clear c10 c20
      try simp only [List.append_eq, List.cons_append, List.nil_append]
      rcases hP with he | ⟨he, hlt | ⟨hle, htk⟩⟩
      · have he1 : (s == k) = true := by simpa using he
        rw [he1] at h2
        clear he
        go_wp2_with (first | ((with_reducible refine (aw _).mono ?_); rintro e w3 ⟨rfl, hb3⟩; (first | ((with_reducible obtain ⟨p, hw''⟩ := In.of2 p hb3); subst hw'') | (obtain ⟨p, hw''⟩ := In.of hb3; subst hw''))) | ((with_reducible refine (c3 _).mono ?_); rintro e w4 ⟨rfl, rfl⟩))
        go_ret
        exact ⟨rfl, p.back (Below.refl _ _)⟩
      · have he1 : (s == k) = false := by simpa using he
        have hlt' : (Y.length : Int) < X.length := by omega
        rw [he1] at h2
        clear he
        go_wp2_with (first | ((with_reducible refine (aw _).mono ?_); rintro e w3 ⟨rfl, hb3⟩; (first | ((with_reducible obtain ⟨p, hw''⟩ := In.of2 p hb3); subst hw'') | (obtain ⟨p, hw''⟩ := In.of hb3; subst hw''))) | ((with_reducible refine (c3 _).mono ?_); rintro e w4 ⟨rfl, rfl⟩))
        go_ret
        exact ⟨rfl, p.back (Below.refl _ _)⟩
      · have he1 : (s == k) = false := by simpa using he
        have hle' : ¬ (Y.length : Int) < X.length := by omega
        have hle2 : (X.length : Int) ≤ Y.length := by omega
        have hex := take_st Y X.length
        have htk1 : (Y.take X.length != X) = true := by simpa using htk
        have htk2 : (Y.take X.length == X) = false := by simpa using htk
        rw [he1] at h2
        clear he
        generalize Y.take X.length = T at *
        go_wp2_with (first | ((with_reducible refine (aw _).mono ?_); rintro e w3 ⟨rfl, hb3⟩; (first | ((with_reducible obtain ⟨p, hw''⟩ := In.of2 p hb3); subst hw'') | (obtain ⟨p, hw''⟩ := In.of hb3; subst hw''))) | ((with_reducible refine (c3 _).mono ?_); rintro e w4 ⟨rfl, rfl⟩))
        go_ret
        exact ⟨rfl, p.back (Below.refl _ _)⟩
    · have h2i : ¬ (300 : Int) < u.length := by omega
      rw [if_neg h2'] at huk
      have huk' := huk.symm
      clear huk
      subst huk'
      go_enter Tryd.func3, Tryd.ntmps3
      go_upto_region 6 with (first | ((with_reducible refine c10.mono ?_); rintro e w1 ⟨rfl, hb1⟩; (first | ((with_reducible obtain ⟨p, hw''⟩ := In.of2 p hb1); subst hw'') | (obtain ⟨p, hw''⟩ := In.of hb1; subst hw''))) | ((with_reducible refine (c20 _).mono ?_); rintro e w2 ⟨rfl, hb2⟩; (first | ((with_reducible obtain ⟨p, hw''⟩ := In.of2 p hb2); subst hw'') | (obtain ⟨p, hw''⟩ := In.of hb2; subst hw''))))
      clear c10 c20
      try simp only [List.append_eq, List.cons_append, List.nil_append]
      rcases hP with he | ⟨he, hlt | ⟨hle, htk⟩⟩
      · have he1 : (s == k) = true := by simpa using he
        rw [he1] at h2
        clear he
        go_wp2_with (first | ((with_reducible refine (aw _).mono ?_); rintro e w3 ⟨rfl, hb3⟩; (first | ((with_reducible obtain ⟨p, hw''⟩ := In.of2 p hb3); subst hw'') | (obtain ⟨p, hw''⟩ := In.of hb3; subst hw''))) | ((with_reducible refine (c3 _).mono ?_); rintro e w4 ⟨rfl, rfl⟩))
        go_ret
        exact ⟨rfl, p.back (Below.refl _ _)⟩
      · have he1 : (s == k) = false := by simpa using he
        have hlt' : (Y.length : Int) < X.length := by omega
        rw [he1] at h2
        clear he
        go_wp2_with (first | ((with_reducible refine (aw _).mono ?_); rintro e w3 ⟨rfl, hb3⟩; (first | ((with_reducible obtain ⟨p, hw''⟩ := In.of2 p hb3); subst hw'') | (obtain ⟨p, hw''⟩ := In.of hb3; subst hw''))) | ((with_reducible refine (c3 _).mono ?_); rintro e w4 ⟨rfl, rfl⟩))
        go_ret
        exact ⟨rfl, p.back (Below.refl _ _)⟩
      · have he1 : (s == k) = false := by simpa using he
        have hle' : ¬ (Y.length : Int) < X.length := by omega
        have hle2 : (X.length : Int) ≤ Y.length := by omega
        have hex := take_st Y X.length
        have htk1 : (Y.take X.length != X) = true := by simpa using htk
        have htk2 : (Y.take X.length == X) = false := by simpa using htk
        rw [he1] at h2
        clear he
        generalize Y.take X.length = T at *
        go_wp2_with (first | ((with_reducible refine (aw _).mono ?_); rintro e w3 ⟨rfl, hb3⟩; (first | ((with_reducible obtain ⟨p, hw''⟩ := In.of2 p hb3); subst hw'') | (obtain ⟨p, hw''⟩ := In.of hb3; subst hw''))) | ((with_reducible refine (c3 _).mono ?_); rintro e w4 ⟨rfl, rfl⟩))
        go_ret
        exact ⟨rfl, p.back (Below.refl _ _)⟩
  · have h1i : ¬ (300 : Int) < t.length := by omega
    rw [if_neg h1'] at hts
    have hts' := hts.symm
    clear hts
    subst hts'
    by_cases h2' : 300 < u.length
    · have h2i : (300 : Int) < u.length := by omega
      have h2l : (300 : Int) ≤ u.length := by omega
      rw [if_pos h2'] at huk
      have hx2 := take_st u 300
      rw [huk] at hx2
      go_enter Tryd.func3, Tryd.ntmps3
      go_upto_region 6 with (first | ((with_reducible refine c10.mono ?_); rintro e w1 ⟨rfl, hb1⟩; (first | ((with_reducible obtain ⟨p, hw''⟩ := In.of2 p hb1); subst hw'') | (obtain ⟨p, hw''⟩ := In.of hb1; subst hw''))) | ((with_reducible refine (c20 _).mono ?_); rintro e w2 ⟨rfl, hb2⟩; (first | ((with_reducible obtain ⟨p, hw''⟩ := In.of2 p hb2); subst hw'') | (obtain ⟨p, hw''⟩ := In.of hb2; subst hw''))))
      clear c10 c20
      try simp only [List.append_eq, List.cons_append, List.nil_append]
      rcases hP with he | ⟨he, hlt | ⟨hle, htk⟩⟩
      · have he1 : (s == k) = true := by simpa using he
        rw [he1] at h2
        clear he
        go_wp2_with (first | ((with_reducible refine (aw _).mono ?_); rintro e w3 ⟨rfl, hb3⟩; (first | ((with_reducible obtain ⟨p, hw''⟩ := In.of2 p hb3); subst hw'') | (obtain ⟨p, hw''⟩ := In.of hb3; subst hw''))) | ((with_reducible refine (c3 _).mono ?_); rintro e w4 ⟨rfl, rfl⟩))
        go_ret
        exact ⟨rfl, p.back (Below.refl _ _)⟩
      · have he1 : (s == k) = false := by simpa using he
        have hlt' : (Y.length : Int) < X.length := by omega
        rw [he1] at h2
        clear he
        go_wp2_with (first | ((with_reducible refine (aw _).mono ?_); rintro e w3 ⟨rfl, hb3⟩; (first | ((with_reducible obtain ⟨p, hw''⟩ := In.of2 p hb3); subst hw'') | (obtain ⟨p, hw''⟩ := In.of hb3; subst hw''))) | ((with_reducible refine (c3 _).mono ?_); rintro e w4 ⟨rfl, rfl⟩))
        go_ret
        exact ⟨rfl, p.back (Below.refl _ _)⟩
      · have he1 : (s == k) = false := by simpa using he
        have hle' : ¬ (Y.length : Int) < X.length := by omega
        have hle2 : (X.length : Int) ≤ Y.length := by omega
        have hex := take_st Y X.length
        have htk1 : (Y.take X.length != X) = true := by simpa using htk
        have htk2 : (Y.take X.length == X) = false := by simpa using htk
        rw [he1] at h2
        clear he
        generalize Y.take X.length = T at *
        go_wp2_with (first | ((with_reducible refine (aw _).mono ?_); rintro e w3 ⟨rfl, hb3⟩; (first | ((with_reducible obtain ⟨p, hw''⟩ := In.of2 p hb3); subst hw'') | (obtain ⟨p, hw''⟩ := In.of hb3; subst hw''))) | ((with_reducible refine (c3 _).mono ?_); rintro e w4 ⟨rfl, rfl⟩))
        go_ret
        exact ⟨rfl, p.back (Below.refl _ _)⟩
    · have h2i : ¬ (300 : Int) < u.length := by omega
      rw [if_neg h2'] at huk
      have huk' := huk.symm
      clear huk
      subst huk'
      go_enter Tryd.func3, Tryd.ntmps3
      go_upto_region 6 with (first | ((with_reducible refine c10.mono ?_); rintro e w1 ⟨rfl, hb1⟩; (first | ((with_reducible obtain ⟨p, hw''⟩ := In.of2 p hb1); subst hw'') | (obtain ⟨p, hw''⟩ := In.of hb1; subst hw''))) | ((with_reducible refine (c20 _).mono ?_); rintro e w2 ⟨rfl, hb2⟩; (first | ((with_reducible obtain ⟨p, hw''⟩ := In.of2 p hb2); subst hw'') | (obtain ⟨p, hw''⟩ := In.of hb2; subst hw''))))
      clear c10 c20
      try simp only [List.append_eq, List.cons_append, List.nil_append]
      rcases hP with he | ⟨he, hlt | ⟨hle, htk⟩⟩
      · have he1 : (s == k) = true := by simpa using he
        rw [he1] at h2
        clear he
        go_wp2_with (first | ((with_reducible refine (aw _).mono ?_); rintro e w3 ⟨rfl, hb3⟩; (first | ((with_reducible obtain ⟨p, hw''⟩ := In.of2 p hb3); subst hw'') | (obtain ⟨p, hw''⟩ := In.of hb3; subst hw''))) | ((with_reducible refine (c3 _).mono ?_); rintro e w4 ⟨rfl, rfl⟩))
        go_ret
        exact ⟨rfl, p.back (Below.refl _ _)⟩
      · have he1 : (s == k) = false := by simpa using he
        have hlt' : (Y.length : Int) < X.length := by omega
        rw [he1] at h2
        clear he
        go_wp2_with (first | ((with_reducible refine (aw _).mono ?_); rintro e w3 ⟨rfl, hb3⟩; (first | ((with_reducible obtain ⟨p, hw''⟩ := In.of2 p hb3); subst hw'') | (obtain ⟨p, hw''⟩ := In.of hb3; subst hw''))) | ((with_reducible refine (c3 _).mono ?_); rintro e w4 ⟨rfl, rfl⟩))
        go_ret
        exact ⟨rfl, p.back (Below.refl _ _)⟩
      · have he1 : (s == k) = false := by simpa using he
        have hle' : ¬ (Y.length : Int) < X.length := by omega
        have hle2 : (X.length : Int) ≤ Y.length := by omega
        have hex := take_st Y X.length
        have htk1 : (Y.take X.length != X) = true := by simpa using htk
        have htk2 : (Y.take X.length == X) = false := by simpa using htk
        rw [he1] at h2
        clear he
        generalize Y.take X.length = T at *
        go_wp2_with (first | ((with_reducible refine (aw _).mono ?_); rintro e w3 ⟨rfl, hb3⟩; (first | ((with_reducible obtain ⟨p, hw''⟩ := In.of2 p hb3); subst hw'') | (obtain ⟨p, hw''⟩ := In.of hb3; subst hw''))) | ((with_reducible refine (c3 _).mono ?_); rintro e w4 ⟨rfl, rfl⟩))
        go_ret
        exact ⟨rfl, p.back (Below.refl _ _)⟩
theorem keyNames_walk (t u : List UInt8) (w : World) (hsh : w.ShapedOpen Tryd.prog) (ht : t.length ≤ maxLen) (hu : u.length ≤ maxLen) :
    Calls Tryd.prog 3 #[.string (st t), .string (st u)] w fun e w' => e = .returned (.bool true) ∧ Below w.heap.size w w' := by
  obtain ⟨m, hm⟩ := Tryd.laysM155.s1_3 w hsh
  refine keyNames_in (if 300 < t.length then t.take 300 else t) (if 300 < u.length then u.take 300 else u) w m hm ?_ ?_ t u ht hu rfl rfl
  · split
    · rw [List.length_take]; omega
    · omega
  · split
    · rw [List.length_take]; omega
    · omega
end Go.Proofs.YteldgdlpfailgaaDoor
