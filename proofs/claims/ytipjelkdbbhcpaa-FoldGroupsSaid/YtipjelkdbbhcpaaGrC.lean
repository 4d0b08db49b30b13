
/-
  slices.BinarySearchFunc over rising values, with val.Cmp.
-/
import Derived.Test.YtipjelkdbbhcpaaGrB
set_option linter.unusedSimpArgs false
set_option linter.unusedVariables false
namespace Go.Proofs.Ytipjelkdbbhcpaa
open Go.RowKit Go.Deep

def isAtV (ks : List Val) (y : Val) (n : Nat) : Bool := match ks[n]? with | some x => cmpV x y == 0 | none => false
structure PlaceV (ks : List Val) (y : Val) (n : Nat) : Prop where
  le : n ≤ ks.length
  lo : ∀ (t : Nat) x, t < n → ks[t]? = some x → cmpV x y < 0
  hi : ∀ (t : Nat) x, n ≤ t → ks[t]? = some x → ¬ cmpV x y < 0
def SearchV (ks : List Val) (y : Val) (w : World) (e : Ending) (w' : World) : Prop := ∃ n : Nat, e = .returned (.tuple #[.int .i64 (n : Int), .bool (isAtV ks y n)]) ∧ PlaceV ks y n ∧ Below w.heap.size w w'
set_option maxRecDepth 8000 in
set_option maxHeartbeats 4000000 in
theorem bsearch_c (A : Option Addr) (cap : Nat) (ks : List Val) (y : Val) (kk : Int) (kb : Bool) (kn : Int) (kf : Nat) (ss : List UInt8) (kB : Option Addr) (klen kc : Nat) (w : World)
    (hp : Parts w A ks) (hy : Has w (valV kk kb kn kf ss kB klen kc) y) (hm : ∀ (a b : Nat) (x z : Val), a < b → ks[a]? = some x → ks[b]? = some z → cmpV z y < 0 → cmpV x y < 0) (hl : ks.length ≤ 1000) :
    Calls Try.prog 50 #[.slice A ks.length cap, valV kk kb kn kf ss kB klen kc, .func (.func 33) #[] #[]] w (SearchV ks y w) := by
  obtain ⟨GOAL, hG⟩ : ∃ G, G = SearchV ks y w := ⟨_, rfl⟩
  rw [← hG]
  have hGo := Lib.hid hG
  clear hG
  go_enter Try.func50, Try.ntmps50
  go_upto_region 1 with fail
  obtain ⟨w1, hw1⟩ : ∃ w1, w1 = w.alloc (.cells #[.int .i64 kk, .bool kb, .int .i64 kn, .float .f64 kf, .string (st ss), .slice kB klen kc] 27) := ⟨_, rfl⟩
  have bk : Below w.heap.size w w1 := hw1 ▸ below_alloc w _
  have hbox : Box w1 w.heap.size kk kb kn kf ss kB klen kc := hw1 ▸ Box.new w kk kb kn kf ss kB klen kc _
  rw [← hw1]
  clear hw1
  go_wp2_with fail
  go_loopw [9, 10] (fun a9 a10 wr => ∃ i j : Nat, a9 = .int .i64 i ∧ a10 = .int .i64 j ∧ i ≤ j ∧ j ≤ ks.length ∧ Hid ((∀ (t : Nat) x, t < i → ks[t]? = some x → cmpV x y < 0) ∧ (∀ (t : Nat) x, j ≤ t → ks[t]? = some x → ¬ cmpV x y < 0)) ∧ Below w1.heap.size w1 wr) (fun a b _ => (intOf b).toNat - (intOf a).toNat)
  case atStart => exact ⟨0, ks.length, rfl, rfl, Nat.zero_le _, Nat.le_refl _, Lib.hid ⟨fun t b h => absurd h (Nat.not_lt_zero _), fun t b h1 h2 => by rw [List.getElem?_eq_none h1] at h2; cases h2⟩, Below.refl _ _⟩
  case round =>
    obtain ⟨i, j, rfl, rfl, hij, hj, hinv, hbz⟩ := hrel
    have hbr := bk.trans (hbz.mono bk.size)
    obtain ⟨x6, x0, x1, x2, x3, x4, x5⟩ := hbox.keep hbz
    have hyr := hy.keep hbr
    by_cases hlt : i < j
    · have hlt' : (i : Int) < j := by omega
      have w1' : IntKind.i64.wrap ((i : Int) + j) = (i : Int) + j := by rw [IntKind.wrap_i64]; omega
      obtain ⟨m, hm'⟩ : ∃ m, m = (i + j) / 2 := ⟨_, rfl⟩
      have hm1 : i ≤ m := by omega
      have hm2 : m < j := by omega
      have hmz : ((i : Int) + j) / 2 = (m : Int) := by omega
      have hml : (m : Int) < ks.length := by omega
      have hmn : m < ks.length := by omega
      have w2 : IntKind.i64.wrap ((m : Int) + 1) = (m : Int) + 1 := by rw [IntKind.wrap_i64]; omega
      have hget : ks[m]? = some ks[m] := by simp
      have hlow : cmpV ks[m] y < 0 → ∀ (t : Nat) x, t < m + 1 → ks[t]? = some x → cmpV x y < 0 := fun h t x ht hx => by
        by_cases e : t = m
        · subst e
          rw [hget] at hx
          cases hx
          exact h
        · exact hm t m x ks[m] (by omega) hx hget h
      have hhigh : ¬ cmpV ks[m] y < 0 → ∀ (t : Nat) x, m ≤ t → ks[t]? = some x → ¬ cmpV x y < 0 := fun h t x ht hx hc => by
        by_cases e : t = m
        · subst e
          rw [hget] at hx
          cases hx
          exact h hc
        · exact h (hm m t ks[m] x (by omega) hget hx hc)
      obtain ⟨ad, ak, ab, an, aF, aS, aB, alen, ac, rfl, hax, haat⟩ := hp m ks[m] hget
      obtain ⟨q6, q0, q1, q2, q3, q4, q5⟩ := haat.keep hbr
      have cc : ∀ p : In wr, Calls Try.prog 33 #[valV ak ab an aF aS aB alen ac, valV kk kb kn kf ss kB klen kc] p.w fun e w' => e = .returned (.int .i64 (cmpV ks[m] y)) ∧ Below p.w.heap.size p.w w' := fun p => cmpv_c _ _ _ _ p.w ((hax.keep hbr).keep p.h) (hyr.keep p.h)
      have hh := hinv
      have hmm := Lib.hid hm'
      clear hinv hp hy hm hbox haat hax hm'
      by_cases hs : cmpV ks[m] y < 0
      · have hL := Lib.hid (hlow hs)
        generalize cmpV ks[m] y = C at *
        clear hlow hhigh hget
        go_upto_region 5 with fail
        (refine wp_region_flow [] (by kernel_rfl) (by kernel_rfl) ?_; (repeat (((with_reducible refine wpFlow_steps ?_); intro K hK; go_simp; first | (with_reducible refine hK _ ?_; clear hK K) | (apply Exists.intro; (with_reducible refine ⟨fun _ => ⟨?_, _, rfl⟩, hK _ ?_⟩); (· exact rfl); clear hK K) | (apply Exists.intro; (with_reducible refine ⟨fun _ => ⟨_, rfl⟩, hK _ ?_⟩); clear hK K) | (apply Exists.intro; (with_reducible refine ⟨fun _ => ?_, hK _ ?_⟩); (· (with_reducible (first | exact cc _))); clear hK K)))); (refine wpFlow_nil ?_; rintro w1 ⟨q0, hq0⟩; have hb := In.h q0; rw [← hq0] at hb; clear hq0 q0; (first | ((with_reducible obtain ⟨p, hw''⟩ := In.of2 p hb); subst hw'') | (obtain ⟨p, hw''⟩ := In.of hb; subst hw'')); go_simp; intros))
        have hb2 := hbz.trans (p.h.mono hbz.size)
        go_wp2_with fail
        exact ⟨⟨m + 1, j, by simp, rfl, by omega, hj, Lib.hid ⟨hL.out, hh.out.2⟩, hb2⟩, by simp [intOf]; omega⟩
      · have hH := Lib.hid (hhigh hs)
        generalize cmpV ks[m] y = C at *
        clear hlow hhigh hget
        go_upto_region 5 with fail
        (refine wp_region_flow [] (by kernel_rfl) (by kernel_rfl) ?_; (repeat (((with_reducible refine wpFlow_steps ?_); intro K hK; go_simp; first | (with_reducible refine hK _ ?_; clear hK K) | (apply Exists.intro; (with_reducible refine ⟨fun _ => ⟨?_, _, rfl⟩, hK _ ?_⟩); (· exact rfl); clear hK K) | (apply Exists.intro; (with_reducible refine ⟨fun _ => ⟨_, rfl⟩, hK _ ?_⟩); clear hK K) | (apply Exists.intro; (with_reducible refine ⟨fun _ => ?_, hK _ ?_⟩); (· (with_reducible (first | exact cc _))); clear hK K)))); (refine wpFlow_nil ?_; rintro w1 ⟨q0, hq0⟩; have hb := In.h q0; rw [← hq0] at hb; clear hq0 q0; (first | ((with_reducible obtain ⟨p, hw''⟩ := In.of2 p hb); subst hw'') | (obtain ⟨p, hw''⟩ := In.of hb; subst hw'')); go_simp; intros))
        have hb2 := hbz.trans (p.h.mono hbz.size)
        go_wp2_with fail
        exact ⟨⟨i, m, rfl, rfl, hm1, by omega, Lib.hid ⟨hh.out.1, hH.out⟩, hb2⟩, by simp [intOf]; omega⟩
    · have hlt' : ¬ (i : Int) < j := by omega
      obtain rfl : i = j := by omega
      have hP : Hid (PlaceV ks y i) := Lib.hid ⟨hj, hinv.out.1, hinv.out.2⟩
      clear hinv
      by_cases hil : i < ks.length
      · have hil' : (i : Int) < ks.length := by omega
        have hget : ks[i]? = some ks[i] := by simp
        obtain ⟨ad, ak, ab, an, aF, aS, aB, alen, ac, rfl, hax, haat⟩ := hp i ks[i] hget
        obtain ⟨q6, q0, q1, q2, q3, q4, q5⟩ := haat.keep hbr
        have cc : ∀ p : In wr, Calls Try.prog 33 #[valV ak ab an aF aS aB alen ac, valV kk kb kn kf ss kB klen kc] p.w fun e w' => e = .returned (.int .i64 (cmpV ks[i] y)) ∧ Below p.w.heap.size p.w w' := fun p => cmpv_c _ _ _ _ p.w ((hax.keep hbr).keep p.h) (hyr.keep p.h)
        have hA : isAtV ks y i = (cmpV ks[i] y == 0) := by unfold isAtV; rw [hget]
        have hA := Lib.hid hA
        clear hp hy hm hbox haat hax hget
        generalize cmpV ks[i] y = C at *
        go_upto_region 8 with fail
        (refine wp_region_flow [] (by kernel_rfl) (by kernel_rfl) ?_; (repeat (((with_reducible refine wpFlow_steps ?_); intro K hK; go_simp; first | (with_reducible refine hK _ ?_; clear hK K) | (apply Exists.intro; (with_reducible refine ⟨fun _ => ⟨?_, _, rfl⟩, hK _ ?_⟩); (· exact rfl); clear hK K) | (apply Exists.intro; (with_reducible refine ⟨fun _ => ⟨_, rfl⟩, hK _ ?_⟩); clear hK K) | (apply Exists.intro; (with_reducible refine ⟨fun _ => ?_, hK _ ?_⟩); (· (with_reducible (first | exact cc _))); clear hK K)))); (refine wpFlow_nil ?_; rintro w1 ⟨q0, hq0⟩; have hb := In.h q0; rw [← hq0] at hb; clear hq0 q0; (first | ((with_reducible obtain ⟨p, hw''⟩ := In.of2 p hb); subst hw'') | (obtain ⟨p, hw''⟩ := In.of hb; subst hw'')); go_simp; intros))
        have hb2 := hbr.trans (p.h.mono hbr.size)
        go_wp2_with fail
        rw [hGo.out]
        exact ⟨i, by rw [hA.out], hP.out, hb2⟩
      · have hil' : ¬ (i : Int) < ks.length := by omega
        have hA : isAtV ks y i = false := by unfold isAtV; rw [List.getElem?_eq_none (by omega)]
        have hA := Lib.hid hA
        clear hp hy hm hbox
        go_upto_region 8 with fail
        (refine wp_region_flow [] (by kernel_rfl) (by kernel_rfl) ?_; (repeat (((with_reducible refine wpFlow_steps ?_); intro K hK; go_simp; first | (with_reducible refine hK _ ?_; clear hK K) | (apply Exists.intro; (with_reducible refine ⟨fun _ => ⟨?_, _, rfl⟩, hK _ ?_⟩); (· exact rfl); clear hK K) | (apply Exists.intro; (with_reducible refine ⟨fun _ => ⟨_, rfl⟩, hK _ ?_⟩); clear hK K) | (apply Exists.intro; (with_reducible refine ⟨fun _ => ?_, hK _ ?_⟩); (· (with_reducible (fail))); clear hK K)))); (refine wpFlow_nil ?_; rintro w1 ⟨q0, hq0⟩; have hb := In.h q0; rw [← hq0] at hb; clear hq0 q0; (first | ((with_reducible obtain ⟨p, hw''⟩ := In.of2 p hb); subst hw'') | (obtain ⟨p, hw''⟩ := In.of hb; subst hw'')); go_simp; intros))
        have hb2 := hbr.trans (p.h.mono hbr.size)
        go_wp2_with fail
        rw [hGo.out]
        exact ⟨i, by rw [hA.out], hP.out, hb2⟩
end Go.Proofs.Ytipjelkdbbhcpaa
