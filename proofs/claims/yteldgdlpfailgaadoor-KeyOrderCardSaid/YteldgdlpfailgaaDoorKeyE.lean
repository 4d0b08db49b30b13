
/-
  Keys of all values: key.Of, the reference's Of.
-/
import Derived.Test.YteldgdlpfailgaaDoorKeyD
import Derived.Test.YteldgdlpfailgaaDoorRcc
import Derived.Test.YteldgdlpfailgaaDoorRpt
set_option linter.unusedSimpArgs false
set_option linter.unusedVariables false
namespace Go.Proofs.YteldgdlpfailgaaDoor
open Go.RowKit

def clsB (k : Int) : UInt8 := byte (rcls k + 1)
mutual
/-- a value's key -/
def keyV : Val → List UInt8
  | .mk k b n f s l => clsB k :: (if k = 1 then [if b then 1 else 0] else if k = 2 then eightL (key (part n)) ++ twoL (over n) ++ [2] else if k = 3 then eightL (key f) ++ [0, 0] ++ [3] else if k = 4 then nameL s else if k = 5 ∨ k = 6 then keyVL l ++ [0] else if k = 7 ∨ k = 8 then eightL (n % 18446744073709551616) else [])
def keyVL : List Val → List UInt8
  | [] => []
  | v :: l => 1 :: (keyV v ++ keyVL l)
end
theorem keyVL_append (a b : List Val) : keyVL (a ++ b) = keyVL a ++ keyVL b := by
  induction a with
  | nil => simp [keyVL]
  | cons v a ih => simp [keyVL, ih]
theorem keyVL_take {l : List Val} {i : Nat} {x : Val} (h : l[i]? = some x) : keyVL (l.take (i + 1)) = keyVL (l.take i) ++ (1 :: keyV x) := by
  obtain ⟨hi, rfl⟩ := List.getElem?_eq_some_iff.1 h
  rw [List.take_succ_eq_append_getElem hi, keyVL_append]
  simp [keyVL]
mutual
theorem keyV_len : ∀ v : Val, (keyV v).length + 1 ≤ 4 * (putV v).length
  | .mk k b n f s l => by
    have h := keyVL_len l
    have hn := escL_len s
    rw [keyV, putV]
    simp only [List.length_cons]
    by_cases h0 : k = 0
    · subst h0; simp
    by_cases h1 : k = 1
    · subst h1; simp
    by_cases h2 : k = 2
    · subst h2; simp [eightL, twoL]
    by_cases h3 : k = 3
    · subst h3; simp [eightL]
    by_cases h4 : k = 4
    · subst h4; simp [nameL, twoL]; omega
    by_cases h5 : k = 5 ∨ k = 6
    · rw [if_neg h1, if_neg h2, if_neg h3, if_neg h4, if_pos h5, if_neg h0, if_neg h1, if_neg (by omega), if_neg h3, if_neg h4]
      simp [twoL]
      omega
    by_cases h7 : k = 7 ∨ k = 8
    · rw [if_neg h1, if_neg h2, if_neg h3, if_neg h4, if_neg h5, if_pos h7, if_neg h0, if_neg h1, if_pos (by omega)]
      simp [eightL]
    · rw [if_neg h1, if_neg h2, if_neg h3, if_neg h4, if_neg h5, if_neg h7]
      simp <;> omega
theorem keyVL_len : ∀ l : List Val, (keyVL l).length ≤ 4 * (putVL l).length
  | [] => by simp [keyVL, putVL]
  | v :: l => by
    have h1 := keyV_len v
    have h2 := keyVL_len l
    simp only [keyVL, putVL, List.length_cons, List.length_append]
    omega
end
theorem keyVL_pre {l : List Val} (i : Nat) : (keyVL (l.take i)).length ≤ (keyVL l).length := by
  have e := keyVL_append (l.take i) (l.drop i)
  rw [List.take_append_drop] at e
  rw [e, List.length_append]
  omega
theorem putVL_part {l : List Val} {i : Nat} {x : Val} (h : l[i]? = some x) : (putV x).length ≤ (putVL l).length := by
  have h1 := putVL_pre (l := l) (i + 1)
  have h2 := putVL_take h
  rw [h2, List.length_append] at h1
  omega
theorem cls_byte {k : Int} (h0 : 0 ≤ k) (h8 : k ≤ 8) : k = 0 ∨ k = 1 ∨ k = 2 ∨ k = 3 ∨ k = 4 ∨ k = 5 ∨ k = 6 ∨ k = 7 ∨ k = 8 := by omega

set_option maxHeartbeats 1000000 in
theorem class_c (k : Int) (h0 : 0 ≤ k) (h8 : k ≤ 8) (w : World) : Calls Tryd.prog 25 #[.int .i64 k] w fun e w' => e = .returned (.string (st [clsB k])) ∧ Below w.heap.size w w' := by
  have hc := fun x : Int => conv_new w 5 [x]
  simp only [List.length_cons, List.length_nil, List.map_cons, List.map_nil, Nat.zero_add, Nat.reduceAdd] at hc
  rcases cls_byte h0 h8 with rfl | rfl | rfl | rfl | rfl | rfl | rfl | rfl | rfl
  all_goals
    clear h0 h8
    go_enter Tryd.func25, Tryd.ntmps25
    go_wp2
    go_ret
    exact ⟨rfl, by go_grown⟩
set_option maxRecDepth 8000 in
set_option maxHeartbeats 4000000 in
theorem of_c (m : Int) (v : Val) : ∀ (u : Value) (w : World) (d : Nat), Has w u v → checkV v d = 0 → (putV v).length ≤ 4000 → w.cell? ⟨maxG, 0, none⟩ = some (.int .i64 m) → Calls Tryd.prog 17 #[u] w (StrEnds (keyV v) w) := by
  generalize hz : wsz v = z
  induction z using Nat.strongRecOn generalizing v with
  | _ z ih =>
    intro u w d hv hck hsz hm
    obtain ⟨A, cap, rfl, hk, hn, hf, hs, hlb, hl, hc, hp⟩ := hv.open
    have hpart := fun i x => wsz_part (v := v) (x := x) (i := i)
    rw [hz] at hpart
    obtain ⟨k, b, n, f, s, l⟩ := v
    dsimp only [Val.k, Val.b, Val.n, Val.f, Val.s, Val.l] at *
    have hfine := fine_of hck
    have hr := shape_range hfine.sh
    have hP : Parts w A l := hp
    have hkey := Lib.hid (show keyV (.mk k b n f s l) = clsB k :: (if k = 1 then [if b then 1 else 0] else if k = 2 then eightL (key (part n)) ++ twoL (over n) ++ [2] else if k = 3 then eightL (key f) ++ [0, 0] ++ [3] else if k = 4 then nameL s else if k = 5 ∨ k = 6 then keyVL l ++ [0] else if k = 7 ∨ k = 8 then eightL (n % 18446744073709551616) else []) by rw [keyV])
    have hput := Lib.hid (show putV (.mk k b n f s l) = byte (k % 256) :: (if k = 0 then [] else if k = 1 then [if b then 1 else 0] else if k = 2 ∨ k = 7 ∨ k = 8 then eightL (n % 18446744073709551616) else if k = 3 then eightL (canon f) else if k = 4 then twoL s.length ++ s else twoL l.length ++ putVL l) by rw [putV])
    have hG := World.block_lt_of_cell? w ⟨maxG, 0, none⟩ hm
    have hM : ∀ w', Below w.heap.size w w' → w'.cell? ⟨maxG, 0, none⟩ = some (.int .i64 m) := fun w' h => (h.cell (p := ⟨maxG, 0, none⟩) hG).trans hm
    have hMh := Lib.hid hM
    have cc := fun w => class_c k hr.1 hr.2 w
    have hsl := hfine.hs
    have hll := hfine.hl
    clear hv hz hck hp hl hc hm hG hM
    go_enter Tryd.func17, Tryd.ntmps17
    go_upto_region 1 with fail
    obtain ⟨w1, hw1⟩ : ∃ w1, w1 = w.alloc (.cells #[.int .i64 k, .bool b, .int .i64 n, .float .f64 f, .string (st s), .slice A l.length cap] 37) := ⟨_, rfl⟩
    have bk : Below w.heap.size w w1 := hw1 ▸ below_alloc w _
    obtain ⟨x6, x0, x1, x2, x3, x4, x5⟩ : Box w1 w.heap.size k b n f s A l.length cap := hw1 ▸ Box.new w k b n f s A l.length cap _
    rw [← hw1]
    clear hw1
    go_upto_region 2 with ((with_reducible refine (cc _).mono ?_); rintro e w2 ⟨rfl, hb2⟩)
    have y0 := (hb2.cell (p := ⟨w.heap.size, 0, none⟩) x6).trans x0
    have y1 := (hb2.cell (p := ⟨w.heap.size, 1, none⟩) x6).trans x1
    have y2 := (hb2.cell (p := ⟨w.heap.size, 2, none⟩) x6).trans x2
    have y3 := (hb2.cell (p := ⟨w.heap.size, 3, none⟩) x6).trans x3
    have y4 := (hb2.cell (p := ⟨w.heap.size, 4, none⟩) x6).trans x4
    have y5 := (hb2.cell (p := ⟨w.heap.size, 5, none⟩) x6).trans x5
    have y6 := Nat.lt_of_lt_of_le x6 hb2.size
    have bk2 := bk.trans (hb2.mono bk.size)
    clear x0 x1 x2 x3 x4 x5 x6 cc hb2 bk
    generalize hhd : clsB k = hd at *
    have hhd := Lib.hid hhd
    have hk : k = 0 ∨ k = 1 ∨ (k = 7 ∨ k = 8) ∨ k = 2 ∨ k = 3 ∨ k = 4 ∨ (k = 5 ∨ k = 6) := by omega
    clear hr
    rcases hk with rfl | rfl | h78 | rfl | rfl | rfl | h56
    · go_wp2_with fail
      go_ret
      exact ⟨ret_str (by rw [hkey.out]; rfl), bk2⟩
    · cases b
      · go_wp2_with fail
        go_ret
        exact ⟨ret_str (by rw [hkey.out]; rfl), bk2⟩
      · go_wp2_with fail
        go_ret
        exact ⟨ret_str (by rw [hkey.out]; rfl), bk2⟩
    · obtain ⟨N, hN⟩ : ∃ N, N = n % 18446744073709551616 := ⟨_, rfl⟩
      have wN : IntKind.u64.wrap n = N := by rw [wrap_u64, hN]
      have hk3 := Lib.hid (show keyV (.mk k b n f s l) = hd :: eightL N by rw [hkey.out, if_neg (by omega), if_neg (by omega), if_neg (by omega), if_neg (by omega), if_neg (by omega), if_pos h78, hN])
      have c1 : ∀ w, Calls Tryd.prog 22 #[.int .u64 N] w fun e w' => e = .returned (.string (st (eightL N))) ∧ Below w.heap.size w w' := fun w => eight_c N w (by omega)
      clear hN hkey
      rcases h78 with rfl | rfl
      all_goals
        go_wp2_with ((with_reducible refine (c1 _).mono ?_); rintro e w3 ⟨rfl, hb3⟩)
        go_ret
        exact ⟨ret_str (by rw [hk3.out] <;> rfl), bk2.trans (hb3.mono bk2.size)⟩
    · have c1 := fun w => number_int n f b s A l.length cap w hn
      have hk3 := Lib.hid (show keyV (.mk 2 b n f s l) = hd :: (eightL (key (part n)) ++ twoL (over n) ++ [2]) by rw [hkey.out]; rfl)
      have hln : (eightL (key (part n)) ++ twoL (over n) ++ [2]).length = 11 := by simp [eightL, twoL]
      unfold StrEnds at c1
      clear hkey
      generalize eightL (key (part n)) ++ twoL (over n) ++ [2] = T at *
      go_wp2_with ((with_reducible refine (c1 _).mono ?_); rintro e w3 ⟨rfl, hb3⟩)
      go_ret
      exact ⟨ret_str (by rw [hk3.out] <;> rfl), bk2.trans (hb3.mono bk2.size)⟩
    · have c1 := fun w => number_float n f b s A l.length cap w hf
      have hk3 := Lib.hid (show keyV (.mk 3 b n f s l) = hd :: (eightL (key f) ++ [0, 0] ++ [3]) by rw [hkey.out]; rfl)
      have hln : (eightL (key f) ++ [0, 0] ++ [3]).length = 11 := by simp [eightL]
      unfold StrEnds at c1
      clear hkey
      generalize eightL (key f) ++ [0, 0] ++ [3] = T at *
      go_wp2_with ((with_reducible refine (c1 _).mono ?_); rintro e w3 ⟨rfl, hb3⟩)
      go_ret
      exact ⟨ret_str (by rw [hk3.out] <;> rfl), bk2.trans (hb3.mono bk2.size)⟩
    · have c1 := text_c s m w2 (by omega) (hMh.out _ bk2)
      have hk3 := Lib.hid (show keyV (.mk 4 b n f s l) = hd :: nameL s by rw [hkey.out]; rfl)
      have hln : ¬ 9223372036854775807 < 1 + (nameL s).length := by have := escL_len s; unfold nameL; simp; omega
      clear hkey
      generalize nameL s = T at *
      go_wp2_with ((with_reducible refine c1.mono ?_); rintro e w3 ⟨rfl, hb3⟩)
      go_ret
      exact ⟨ret_str (by rw [hk3.out] <;> rfl), bk2.trans (hb3.mono bk2.size)⟩
    · have hk3 := Lib.hid (show keyV (.mk k b n f s l) = hd :: (keyVL l ++ [0]) by rw [hkey.out, if_neg (by omega), if_neg (by omega), if_neg (by omega), if_neg (by omega), if_pos h56])
      have hpl : (putVL l).length ≤ 4000 := by
        have := hput.out
        rw [if_neg (by omega), if_neg (by omega), if_neg (by omega), if_neg (by omega), if_neg (by omega)] at this
        rw [this] at hsz
        simp at hsz
        omega
      have hkl := keyVL_len l
      clear hkey hput hsz
      rcases h56 with rfl | rfl
      all_goals
        go_wp2_with fail
        clear y0 y1 y2 y3 y4 y5
        go_loopw [3, 39] (fun a3 a39 wr => ∃ (i : Nat) (T : List UInt8), a3 = .string (st T) ∧ a39 = .int .i64 i ∧ i ≤ l.length ∧ Hid (T = hd :: keyVL (l.take i)) ∧ T.length ≤ 16001 ∧ Below w2.heap.size w2 wr) (fun _ a _ => l.length - (intOf a).toNat)
        case atStart => exact ⟨0, [hd], rfl, rfl, Nat.zero_le _, (show _ = _ by simp [keyVL]), by simp, Below.refl _ _⟩
        case round =>
          obtain ⟨i, T, rfl, rfl, hi, hT, hTl, hbr⟩ := hrel
          have bkr := bk2.trans (hbr.mono bk2.size)
          by_cases hil : i < l.length
          · have hil' : (i : Int) < l.length := by omega
            obtain ⟨ad, k1, b1, n1, f1, s1, C1, len1, c1, rfl, hx, hat⟩ := hP i l[i] (by simp)
            obtain ⟨q6, q0, q1, q2, q3, q4, q5⟩ := hat.keep bkr
            have wi : IntKind.i64.wrap ((i : Int) + 1) = (i : Int) + 1 := by rw [IntKind.wrap_i64]; omega
            have hst := keyVL_take (l := l) (i := i) (x := l[i]) (by simp)
            have hckx := rp_parts hfine (i := i) (x := l[i]) (by simp)
            have hpx := putVL_part (l := l) (i := i) (x := l[i]) (by simp)
            have hpre := keyVL_pre (l := l) (i + 1)
            have hxr := hx.keep bkr
            have cr : ∀ o, Calls Tryd.prog 17 #[valV k1 b1 n1 f1 _ C1 len1 c1] (wr.alloc o) (StrEnds (keyV l[i]) (wr.alloc o)) := fun o => ih (wsz l[i]) (hpart i l[i] (by simp)) l[i] rfl _ (wr.alloc o) (d + 1) (hxr.keep (below_alloc _ _)) hckx (by omega) (hMh.out _ (bkr.trans ((below_alloc wr o).mono bkr.size)))
            have hT2 := Lib.hid (show T ++ (1 :: keyV l[i]) = hd :: keyVL (l.take (i + 1)) by rw [hT.out, hst]; simp)
            have hl2 : (T ++ (1 :: keyV l[i])).length ≤ 16001 := by rw [hT2.out, List.length_cons]; omega
            have hl3 := hl2
            rw [List.length_append, List.length_cons] at hl3
            have hsm1 : ¬ 9223372036854775807 < 1 + (keyV l[i]).length := by omega
            have hsm2 : ¬ 9223372036854775807 < T.length + (1 + (keyV l[i]).length) := by omega
            have hsm3 : ¬ 9223372036854775807 < T.length + ((keyV l[i]).length + 1) := by omega
            have hl2 := Lib.hid hl2
            clear hx hxr hat hckx hpx hst hpre hl3 hT
            generalize keyV l[i] = px at *
            generalize l[i] = x at *
            clear hP ih hpart hfine
            unfold StrEnds at cr
            go_wp2_with ((with_reducible refine (cr _).mono ?_); rintro e w4 ⟨rfl, hb4⟩; have hb4' := (below_alloc wr _).trans (hb4.mono (below_alloc wr _).size))
            exact ⟨⟨i + 1, T ++ (1 :: px), (by simp), rfl, hil, hT2.out, hl2.out, hbr.trans (hb4'.mono hbr.size)⟩, by simp [intOf]; omega⟩
          · have hil' : ¬ (i : Int) < l.length := by omega
            have hTe := hT.out
            rw [List.take_of_length_le (by omega)] at hTe
            have hTe := Lib.hid (show T ++ [0] = hd :: (keyVL l ++ [0]) by rw [hTe]; simp)
            have hsm : ¬ 9223372036854775807 < T.length + 1 := by omega
            clear hT ih hpart hP hfine
            go_wp2_with fail
            go_ret
            exact ⟨ret_str (by first | exact hTe.out.trans hk3.out.symm | (rw [hk3.out, ← hTe.out] <;> simp)), bkr⟩
end Go.Proofs.YteldgdlpfailgaaDoor
