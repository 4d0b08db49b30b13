
/-
  Traversers that are the same: trav.Same and what it calls.
-/
import Derived.Test.YtfccplkfdhpdgaaTrvC
import Derived.Test.YtfccplkfdhpdgaaEqBy
set_option linter.unusedSimpArgs false
set_option linter.unusedVariables false
namespace Go.Proofs.Ytfccplkfdhpdgaa
open Go.RowKit

def eqV (a b : Val) : Bool := cmpV a b == 0
def eqTg (x y : List UInt8 × Val) : Bool := x.1 == y.1 && eqV x.2 y.2
def sameT (a b : TravD) : Bool := eqV a.v b.v && eqBy eqV a.path b.path && eqBy eqTg a.tags b.tags

set_option maxRecDepth 8000 in
set_option maxHeartbeats 4000000 in
theorem equalV_c (la lb : List Val) (A B : Option Addr) (capa capb : Nat) (w : World) (hpa : Parts w A la) (hpb : Parts w B lb) (hma : la.length ≤ maxLen) (hmb : lb.length ≤ maxLen) :
    Calls Try.prog 31 #[.slice A la.length capa, .slice B lb.length capb, .func (.func 30) #[] #[]] w fun e w' => e = .returned (.bool (eqBy eqV la lb)) ∧ Below w.heap.size w w' := by
  unfold maxLen at hma hmb
  by_cases hll : la.length = lb.length
  · have hne : ((la.length : Int) != lb.length) = false := by simp; omega
    go_enter Try.func31, Try.ntmps31
    have hL := Lib.hid hll
    clear hll
    go_wp2
    go_loopw [17] (fun a17 wr => ∃ i : Nat, a17 = .int .i64 i ∧ i ≤ la.length ∧ Hid (eqBy eqV la lb = eqBy eqV (la.drop i) (lb.drop i)) ∧ Below w.heap.size w wr) (fun a _ => la.length - (intOf a).toNat)
    case atStart => exact ⟨0, rfl, Nat.zero_le _, rfl, Below.refl _ _⟩
    case round =>
      obtain ⟨i, rfl, hia, hcm, hbr⟩ := hrel
      by_cases hin : i < la.length
      · have hll := hL.out
        have hib : i < lb.length := by omega
        have hla' : (i : Int) < la.length := by omega
        have hlb' : (i : Int) < lb.length := by omega
        obtain ⟨ad, k, b, n, f, s, C, len, c, rfl, hx, hat⟩ := hpa i la[i] (by simp)
        obtain ⟨ae, k', b', n', f', s', D, len', c', rfl, hy, hau⟩ := hpb i lb[i] (by simp)
        obtain ⟨q0, q1, q2, q3, q4, q5, q6⟩ := hat.keep hbr
        obtain ⟨s0, s1, s2, s3, s4, s5, s6⟩ := hau.keep hbr
        have wi : IntKind.i64.wrap ((i : Int) + 1) = (i : Int) + 1 := by rw [wrap_i64]; omega
        have hst := Lib.hid (eqBy_step eqV (la := la) (lb := lb) (i := i) (x := la[i]) (y := lb[i]) (by simp) (by simp))
        have hxr := hx.keep hbr
        have hyr := hy.keep hbr
        have cr : ∀ w', Below wr.heap.size wr w' → Calls Try.prog 30 #[valV k b n f s C len c, valV k' b' n' f' s' D len' c'] w' fun e w'' => e = .returned (.bool (eqV la[i] lb[i])) ∧ Below w'.heap.size w' w'' :=
          fun w' hb => samev_c la[i] lb[i] _ _ w' (hxr.keep hb) (hyr.keep hb)
        have b2 : ∀ o1 o2, Below wr.heap.size wr ((wr.alloc o1).alloc o2) := fun o1 o2 => (below_alloc wr o1).alloc (by simp) o2
        generalize la[i] = x at *
        generalize lb[i] = y at *
        clear hx hy hxr hyr hat hau hpa hpb hll
        cases hc0 : eqV x y
        · rw [hc0] at cr
          go_wp2_with ((with_reducible refine (cr _ (b2 _ _)).mono ?_); rintro e w2 ⟨rfl, hb2⟩)
          go_ret
          exact ⟨ret_bool (by rw [hcm.out, hst.out, hc0]; rfl), hbr.trans (((b2 _ _).trans (hb2.mono (b2 _ _).size)).mono hbr.size)⟩
        · rw [hc0] at cr
          go_wp2_with ((with_reducible refine (cr _ (b2 _ _)).mono ?_); rintro e w2 ⟨rfl, hb2⟩)
          refine ⟨⟨i + 1, rfl, hin, ?_, hbr.trans (((b2 _ _).trans (hb2.mono (b2 _ _).size)).mono hbr.size)⟩, by simp [intOf]; omega⟩
          show _ = _
          rw [hcm.out, hst.out, hc0]; rfl
      · have hla' : ¬ (i : Int) < la.length := by omega
        have hF := Lib.hid (hcm.out.trans (eqBy_end eqV (by omega) hL.out))
        clear hpa hpb
        go_wp2_with fail
        go_ret
        exact ⟨ret_bool hF.out.symm, hbr⟩
  · have hne : ((la.length : Int) != lb.length) = true := by simp; omega
    have hF := Lib.hid (eqBy_len eqV la lb hll)
    clear hpa hpb hll
    go_enter Try.func31, Try.ntmps31
    go_wp2
    go_ret
    exact ⟨ret_bool hF.out.symm, Below.refl _ _⟩
abbrev tagV (x : List UInt8) (k : Int) (b : Bool) (n : Int) (f : Nat) (s : List UInt8) (B : Option Addr) (len c : Nat) : Value := .agg #[.string (st x), .int .i64 k, .bool b, .int .i64 n, .float .f64 f, .string (st s), .slice B len c]
set_option maxRecDepth 8000 in
set_option maxHeartbeats 4000000 in
theorem tagSame_c (x y : List UInt8 × Val) (k : Int) (b : Bool) (n : Int) (f : Nat) (s : List UInt8) (B : Option Addr) (len c : Nat) (k' : Int) (b' : Bool) (n' : Int) (f' : Nat) (s' : List UInt8) (B' : Option Addr) (len' c' : Nat) (w : World) (hx : Has w (valV k b n f s B len c) x.2) (hy : Has w (valV k' b' n' f' s' B' len' c') y.2) :
    Calls Try.prog 29 #[tagV x.1 k b n f s B len c, tagV y.1 k' b' n' f' s' B' len' c'] w fun e w' => e = .returned (.bool (eqTg x y)) ∧ Below w.heap.size w w' := by
  have b2 : ∀ o1 o2, Below w.heap.size w ((w.alloc o1).alloc o2) := fun o1 o2 => (below_alloc w o1).alloc (by simp) o2
  have cr : ∀ w', Below w.heap.size w w' → Calls Try.prog 30 #[valV k b n f s B len c, valV k' b' n' f' s' B' len' c'] w' fun e w'' => e = .returned (.bool (eqV x.2 y.2)) ∧ Below w'.heap.size w' w'' :=
    fun w' hb => samev_c x.2 y.2 _ _ w' (hx.keep hb) (hy.keep hb)
  obtain ⟨x1, x2⟩ := x
  obtain ⟨y1, y2⟩ := y
  clear hx hy
  dsimp only at *
  cases h1 : (x1 == y1)
  · go_enter Try.func29, Try.ntmps29
    go_wp2
    go_ret
    exact ⟨ret_bool (by simp [eqTg, h1]), b2 _ _⟩
  · go_enter Try.func29, Try.ntmps29
    go_wp2_with ((with_reducible refine (cr _ (b2 _ _)).mono ?_); rintro e w2 ⟨rfl, hb2⟩)
    go_ret
    exact ⟨ret_bool (by simp [eqTg, h1]), (b2 _ _).trans (hb2.mono (b2 _ _).size)⟩

set_option maxRecDepth 8000 in
set_option maxHeartbeats 4000000 in
theorem equalTg_c (la lb : List (List UInt8 × Val)) (A B : Option Addr) (capa capb : Nat) (w : World) (hpa : Tags w A la) (hpb : Tags w B lb) (hma : la.length ≤ maxLen) (hmb : lb.length ≤ maxLen) :
    Calls Try.prog 32 #[.slice A la.length capa, .slice B lb.length capb, .func (.func 29) #[] #[]] w fun e w' => e = .returned (.bool (eqBy eqTg la lb)) ∧ Below w.heap.size w w' := by
  unfold maxLen at hma hmb
  by_cases hll : la.length = lb.length
  · have hne : ((la.length : Int) != lb.length) = false := by simp; omega
    go_enter Try.func32, Try.ntmps32
    have hL := Lib.hid hll
    clear hll
    go_wp2
    go_loopw [17] (fun a17 wr => ∃ i : Nat, a17 = .int .i64 i ∧ i ≤ la.length ∧ Hid (eqBy eqTg la lb = eqBy eqTg (la.drop i) (lb.drop i)) ∧ Below w.heap.size w wr) (fun a _ => la.length - (intOf a).toNat)
    case atStart => exact ⟨0, rfl, Nat.zero_le _, rfl, Below.refl _ _⟩
    case round =>
      obtain ⟨i, rfl, hia, hcm, hbr⟩ := hrel
      by_cases hin : i < la.length
      · have hll := hL.out
        have hib : i < lb.length := by omega
        have hla' : (i : Int) < la.length := by omega
        have hlb' : (i : Int) < lb.length := by omega
        obtain ⟨ad, k, b, n, f, s, C, len, c, rfl, _, hx, hat⟩ := hpa i la[i] (by simp)
        obtain ⟨ae, k', b', n', f', s', D, len', c', rfl, _, hy, hau⟩ := hpb i lb[i] (by simp)
        obtain ⟨q0, q1, q2, q3, q4, q5, q6, q7⟩ := hat.keep hbr
        obtain ⟨s0, s1, s2, s3, s4, s5, s6, s7⟩ := hau.keep hbr
        have wi : IntKind.i64.wrap ((i : Int) + 1) = (i : Int) + 1 := by rw [wrap_i64]; omega
        have hst := Lib.hid (eqBy_step eqTg (la := la) (lb := lb) (i := i) (x := la[i]) (y := lb[i]) (by simp) (by simp))
        have hxr := hx.keep hbr
        have hyr := hy.keep hbr
        have cr : ∀ w', Below wr.heap.size wr w' → Calls Try.prog 29 #[tagV la[i].1 k b n f s C len c, tagV lb[i].1 k' b' n' f' s' D len' c'] w' fun e w'' => e = .returned (.bool (eqTg la[i] lb[i])) ∧ Below w'.heap.size w' w'' :=
          fun w' hb => tagSame_c la[i] lb[i] k b n f s C len c k' b' n' f' s' D len' c' w' (hxr.keep hb) (hyr.keep hb)
        have b2 : ∀ o1 o2, Below wr.heap.size wr ((wr.alloc o1).alloc o2) := fun o1 o2 => (below_alloc wr o1).alloc (by simp) o2
        generalize la[i] = x at *
        generalize lb[i] = y at *
        clear hx hy hxr hyr hat hau hpa hpb hll
        cases hc0 : eqTg x y
        · rw [hc0] at cr
          go_wp2_with ((with_reducible refine (cr _ (b2 _ _)).mono ?_); rintro e w2 ⟨rfl, hb2⟩)
          go_ret
          exact ⟨ret_bool (by rw [hcm.out, hst.out, hc0]; rfl), hbr.trans (((b2 _ _).trans (hb2.mono (b2 _ _).size)).mono hbr.size)⟩
        · rw [hc0] at cr
          go_wp2_with ((with_reducible refine (cr _ (b2 _ _)).mono ?_); rintro e w2 ⟨rfl, hb2⟩)
          refine ⟨⟨i + 1, rfl, hin, ?_, hbr.trans (((b2 _ _).trans (hb2.mono (b2 _ _).size)).mono hbr.size)⟩, by simp [intOf]; omega⟩
          show _ = _
          rw [hcm.out, hst.out, hc0]; rfl
      · have hla' : ¬ (i : Int) < la.length := by omega
        have hF := Lib.hid (hcm.out.trans (eqBy_end eqTg (by omega) hL.out))
        clear hpa hpb
        go_wp2_with fail
        go_ret
        exact ⟨ret_bool hF.out.symm, hbr⟩
  · have hne : ((la.length : Int) != lb.length) = true := by simp; omega
    have hF := Lib.hid (eqBy_len eqTg la lb hll)
    clear hpa hpb hll
    go_enter Try.func32, Try.ntmps32
    go_wp2
    go_ret
    exact ⟨ret_bool hF.out.symm, Below.refl _ _⟩

set_option maxRecDepth 8000 in
set_option maxHeartbeats 4000000 in
theorem sameT_c (t t' : TravD) (k : Int) (b : Bool) (n : Int) (f : Nat) (s : List UInt8) (B : Option Addr) (len c : Nat) (P : Option Addr) (pl pc : Nat) (T : Option Addr) (tl tc : Nat) (q : Int)
    (k' : Int) (b' : Bool) (n' : Int) (f' : Nat) (s' : List UInt8) (B' : Option Addr) (len' c' : Nat) (P' : Option Addr) (pl' pc' : Nat) (T' : Option Addr) (tl' tc' : Nat) (q' : Int) (w : World)
    (hx : HasT w k b n f s B len c P pl pc T tl tc q t) (hy : HasT w k' b' n' f' s' B' len' c' P' pl' pc' T' tl' tc' q' t') :
    Calls Try.prog 17 #[travV k b n f s B len c P pl pc T tl tc q, travV k' b' n' f' s' B' len' c' P' pl' pc' T' tl' tc' q'] w fun e w' => e = .returned (.bool (sameT t t')) ∧ Below w.heap.size w w' := by
  have b2 : ∀ o1 o2, Below w.heap.size w ((w.alloc o1).alloc o2) := fun o1 o2 => (below_alloc w o1).alloc (by simp) o2
  have hpl := hx.epl
  have htl := hx.etl
  have hpl' := hy.epl
  have htl' := hy.etl
  subst hpl htl hpl' htl'
  have cv : ∀ w', Below w.heap.size w w' → Calls Try.prog 30 #[valV k b n f s B len c, valV k' b' n' f' s' B' len' c'] w' fun e w'' => e = .returned (.bool (eqV t.v t'.v)) ∧ Below w'.heap.size w' w'' :=
    fun w' hb => samev_c t.v t'.v _ _ w' (hx.hv.keep hb) (hy.hv.keep hb)
  have cp := fun w' hb => equalV_c t.path t'.path P P' pc pc' w' (hx.hp.keep hb) (hy.hp.keep hb) (Nat.le_trans hx.hpc hx.hpm) (Nat.le_trans hy.hpc hy.hpm)
  have ct := fun w' hb => equalTg_c t.tags t'.tags T T' tc tc' w' (hx.ht.keep hb) (hy.ht.keep hb) (Nat.le_trans hx.htc hx.htm) (Nat.le_trans hy.htc hy.htm)
  have hst : sameT t t' = (eqV t.v t'.v && eqBy eqV t.path t'.path && eqBy eqTg t.tags t'.tags) := rfl
  have hS := Lib.hid hst
  clear hx hy hst
  cases h1 : eqV t.v t'.v
  · rw [h1] at cv
    go_enter Try.func17, Try.ntmps17
    go_wp2_with ((with_reducible refine (cv _ (b2 _ _)).mono ?_); rintro e w2 ⟨rfl, hb2⟩; (first | ((with_reducible obtain ⟨p, hw''⟩ := In.of2 p hb2); subst hw'') | (obtain ⟨p, hw''⟩ := In.of hb2; subst hw'')))
    go_ret
    exact ⟨ret_bool (by rw [hS.out, h1]; rfl), p.back (b2 _ _)⟩
  · rw [h1] at cv
    cases h2 : eqBy eqV t.path t'.path
    · rw [h2] at cp
      go_enter Try.func17, Try.ntmps17
      go_wp2_with (first | ((with_reducible refine (cv _ (b2 _ _)).mono ?_); rintro e w2 ⟨rfl, hb2⟩; (first | ((with_reducible obtain ⟨p, hw''⟩ := In.of2 p hb2); subst hw'') | (obtain ⟨p, hw''⟩ := In.of hb2; subst hw''))) | ((with_reducible refine (cp _ (p.back (b2 _ _))).mono ?_); rintro e w2 ⟨rfl, hb2⟩; (first | ((with_reducible obtain ⟨p, hw''⟩ := In.of2 p hb2); subst hw'') | (obtain ⟨p, hw''⟩ := In.of hb2; subst hw''))))
      go_ret
      exact ⟨ret_bool (by rw [hS.out, h1, h2]; rfl), p.back (b2 _ _)⟩
    · rw [h2] at cp
      go_enter Try.func17, Try.ntmps17
      go_wp2_with (first | ((with_reducible refine (cv _ (b2 _ _)).mono ?_); rintro e w2 ⟨rfl, hb2⟩; (first | ((with_reducible obtain ⟨p, hw''⟩ := In.of2 p hb2); subst hw'') | (obtain ⟨p, hw''⟩ := In.of hb2; subst hw''))) | ((with_reducible refine (cp _ (p.back (b2 _ _))).mono ?_); rintro e w2 ⟨rfl, hb2⟩; (first | ((with_reducible obtain ⟨p, hw''⟩ := In.of2 p hb2); subst hw'') | (obtain ⟨p, hw''⟩ := In.of hb2; subst hw''))) | ((with_reducible refine (ct _ (p.back (b2 _ _))).mono ?_); rintro e w2 ⟨rfl, hb2⟩; (first | ((with_reducible obtain ⟨p, hw''⟩ := In.of2 p hb2); subst hw'') | (obtain ⟨p, hw''⟩ := In.of hb2; subst hw''))))
      go_ret
      exact ⟨ret_bool (by rw [hS.out, h1, h2]; rfl), p.back (b2 _ _)⟩
end Go.Proofs.Ytfccplkfdhpdgaa
