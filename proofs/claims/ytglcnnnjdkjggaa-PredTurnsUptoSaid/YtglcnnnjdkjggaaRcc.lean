
/-
  Why a value may not be: the reference's check and Check, whatever the kind.
-/
import Derived.Test.YtglcnnnjdkjggaaRck
set_option linter.unusedSimpArgs false
set_option linter.unusedVariables false
namespace Go.Proofs.Ytglcnnnjdkjggaa
open Go.RowKit

set_option maxRecDepth 8000 in
set_option maxHeartbeats 1000000 in
theorem rck_deep (k : Int) (b : Bool) (n : Int) (f : Nat) (s : List UInt8) (l : List Val) (A : Option Addr) (cap : Nat) (w : World) (d : Nat) (hd : d ≤ 14) (h13 : 13 < d) :
    Calls Try.prog 44 #[valV k b n f s A l.length cap, .int .i64 d] w (IntEnds (checkV (.mk k b n f s l) d) w) := by
  have hV' := Lib.hid (show checkV (.mk k b n f s l) d = 3 by rw [checkV, if_pos h13])
  have h13' : (13 : Int) < d := by omega
  have bk := below_alloc w (.cells #[.int .i64 k, .bool b, .int .i64 n, .float .f64 f, .string (st s), .slice A l.length cap] 31)
  go_enter Try.func44, Try.ntmps44
  go_wp2
  go_ret
  exact ⟨ret_int hV'.out.symm, bk⟩
theorem rcheck_c (v : Val) : ∀ (u : Value) (w : World) (d : Nat), Has w u v → d ≤ 14 → Calls Try.prog 44 #[u, .int .i64 d] w (IntEnds (checkV v d) w) := by
  generalize hz : wsz v = z
  induction z using Nat.strongRecOn generalizing v with
  | _ z ih =>
    intro u w d hv hd
    obtain ⟨A, cap, rfl, hk, hn, hf, hs, hlb, hl, hc, hp⟩ := hv.open
    have hpart := fun i x => wsz_part (v := v) (x := x) (i := i)
    rw [hz] at hpart
    obtain ⟨k, b, n, f, s, l⟩ := v
    dsimp only [Val.k, Val.b, Val.n, Val.f, Val.s, Val.l] at *
    have hP : Parts w A l := hp
    have ih' : ∀ (i : Nat) (x : Val), l[i]? = some x → ∀ (u : Value) (w : World) (d : Nat), Has w u x → d ≤ 14 → Calls Try.prog 44 #[u, .int .i64 d] w (IntEnds (checkV x d) w) := fun i x hx => ih (wsz x) (hpart i x hx) x rfl
    by_cases h13 : 13 < d
    · exact rck_deep k b n f s l A cap w d hd h13
    by_cases hx : k < 0 ∨ 8 < k
    · exact rckX k hx b n f s l A cap w d hf hlb hl hP hd h13 ih'
    have hk : k = 0 ∨ k = 1 ∨ k = 2 ∨ k = 3 ∨ k = 4 ∨ k = 5 ∨ k = 6 ∨ k = 7 ∨ k = 8 := by omega
    rcases hk with rfl | rfl | rfl | rfl | rfl | rfl | rfl | rfl | rfl
    · exact rck0 b n f s l A cap w d hf hlb hl hP hd h13 ih'
    · cases b
      · exact rck1b n f s l A cap w d hf hlb hl hP hd h13 ih'
      · exact rck1a n f s l A cap w d hf hlb hl hP hd h13 ih'
    · by_cases hn0 : n = 0
      · subst hn0
        exact rck2a b f s l A cap w d hf hlb hl hP hd h13 ih'
      · exact rck2b b n f s l A cap w d hf hlb hl hP hd h13 hn0 ih'
    · cases hz : (f == 0)
      · exact rck3b b n f s l A cap w d hf hlb hl hP hd h13 hz ih'
      · exact rck3a b n f s l A cap w d hf hlb hl hP hd h13 hz ih'
    · cases s with
      | nil => exact rck4a b n f l A cap w d hf hlb hl hP hd h13 ih'
      | cons c s => exact rck4b b n f c s l A cap w d hf hlb hl hP hd h13 ih'
    · by_cases hl0 : 0 < l.length
      · exact rck5a b n f s l A cap w d hf hlb hl hP hd h13 hl0 ih'
      · exact rck5b b n f s l A cap w d hf hlb hl hP hd h13 hl0 ih'
    · by_cases hl0 : 0 < l.length
      · exact rck6a b n f s l A cap w d hf hlb hl hP hd h13 hl0 ih'
      · exact rck6b b n f s l A cap w d hf hlb hl hP hd h13 hl0 ih'
    · exact rck7 b n f s l A cap w d hf hlb hl hP hd h13 ih'
    · exact rck8 b n f s l A cap w d hf hlb hl hP hd h13 ih'
set_option maxRecDepth 8000 in
set_option maxHeartbeats 1000000 in
theorem rCheck_c (v : Val) (u : Value) (w : World) (hv : Has w u v) : Calls Try.prog 27 #[u] w (IntEnds (CheckV v) w) := by
  have c1 : ∀ o, Calls Try.prog 43 #[u, .int .i64 60000] (w.alloc o) (SizeEnds v 60000 (w.alloc o)) := fun o => size_c v u (w.alloc o) 60000 (hv.keep (below_alloc _ _)) (by omega)
  have c2 : ∀ w', Below w.heap.size w w' → Calls Try.prog 44 #[u, .int .i64 1] w' (IntEnds (checkV v 1) w') := fun w' h => rcheck_c v u w' 1 (hv.keep h) (by omega)
  obtain ⟨A, cap, rfl, _⟩ := hv.open
  have hC : CheckV v = if 60000 < bsz v then 3 else checkV v 1 := rfl
  have hV := Lib.hid hC
  clear hC hv
  go_enter Try.func27, Try.ntmps27
  go_upto_region 1 with fail
  obtain ⟨w1, hw1⟩ : ∃ w1, w1 = w.alloc (.cells #[.int .i64 v.k, .bool v.b, .int .i64 v.n, .float .f64 v.f, .string (st v.s), .slice A v.l.length cap] 31) := ⟨_, rfl⟩
  have bk : Below w.heap.size w w1 := hw1 ▸ below_alloc w _
  obtain ⟨x6, x0, x1, x2, x3, x4, x5⟩ : Box w1 w.heap.size v.k v.b v.n v.f v.s A v.l.length cap := hw1 ▸ Box.new w v.k v.b v.n v.f v.s A v.l.length cap _
  have c1' : Calls Try.prog 43 #[valV v.k v.b v.n v.f v.s A v.l.length cap, .int .i64 60000] w1 (SizeEnds v 60000 w1) := hw1 ▸ c1 _
  rw [← hw1]
  clear hw1 c1
  by_cases hbig : 60000 < bsz v
  · have hV3 : CheckV v = 3 := by rw [hV.out, if_pos hbig]
    have hV3 := Lib.hid hV3
    clear hV
    go_upto_region 1 with fail
    go_wp2_with (first | ((with_reducible refine c1'.mono ?_); rintro e w2 ⟨r, rfl, g1, g2, g3, hb2⟩; have hr : (60000 : Int) < r := (by have := g2 hbig; omega); (first | ((with_reducible obtain ⟨p, hw''⟩ := In.of2 p hb2); subst hw'') | (obtain ⟨p, hw''⟩ := In.of hb2; subst hw''))))
    go_ret
    exact ⟨ret_int hV3.out.symm, p.back bk⟩
  · have hV3 : CheckV v = checkV v 1 := by rw [hV.out, if_neg hbig]
    have hV3 := Lib.hid hV3
    clear hV
    go_wp2_with (first | ((with_reducible refine c1'.mono ?_); rintro e w2 ⟨r, rfl, g1, g2, g3, hb2⟩; have hr : ¬ (60000 : Int) < r := (by have := g1 (by omega); omega); (first | ((with_reducible obtain ⟨p, hw''⟩ := In.of2 p hb2); subst hw'') | (obtain ⟨p, hw''⟩ := In.of hb2; subst hw''))) | ((with_reducible refine (c2 _ (p.back bk)).mono ?_); rintro e w3 ⟨rfl, hb3⟩; (first | ((with_reducible obtain ⟨p, hw''⟩ := In.of2 p hb3); subst hw'') | (obtain ⟨p, hw''⟩ := In.of hb3; subst hw''))))
    go_ret
    exact ⟨ret_int hV3.out.symm, p.back bk⟩
end Go.Proofs.Ytglcnnnjdkjggaa
