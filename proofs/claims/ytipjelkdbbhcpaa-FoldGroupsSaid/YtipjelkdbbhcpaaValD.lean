
/-
  val.Cmp, and what it calls.
-/
import Derived.Test.YtipjelkdbbhcpaaValC
import Derived.Laws.Externs
set_option linter.unusedSimpArgs false
set_option linter.unusedVariables false
namespace Go.Proofs.Ytipjelkdbbhcpaa
open Go.RowKit

theorem compareInt_c (a b : Int) (w : World) : Calls Try.prog 57 #[.int .i64 a, .int .i64 b] w fun e w' => e = .returned (.int .i64 (sgnI a b)) ∧ Below w.heap.size w w' := by
  unfold sgnI
  by_cases h : a < b
  · go_enter Try.func57, Try.ntmps57
    go_wp2
    all_goals (go_ret; exact ⟨rfl, Below.refl _ _⟩)
  · by_cases h2 : b < a
    · go_enter Try.func57, Try.ntmps57
      go_wp2
      all_goals (go_ret; exact ⟨rfl, Below.refl _ _⟩)
    · go_enter Try.func57, Try.ntmps57
      go_wp2
      all_goals (go_ret; exact ⟨rfl, Below.refl _ _⟩)
theorem compareI64_c (a b : Int) (w : World) : Calls Try.prog 62 #[.int .i64 a, .int .i64 b] w fun e w' => e = .returned (.int .i64 (sgnI a b)) ∧ Below w.heap.size w w' := by
  unfold sgnI
  by_cases h : a < b
  · go_enter Try.func62, Try.ntmps62
    go_wp2
    all_goals (go_ret; exact ⟨rfl, Below.refl _ _⟩)
  · by_cases h2 : b < a
    · go_enter Try.func62, Try.ntmps62
      go_wp2
      all_goals (go_ret; exact ⟨rfl, Below.refl _ _⟩)
    · go_enter Try.func62, Try.ntmps62
      go_wp2
      all_goals (go_ret; exact ⟨rfl, Below.refl _ _⟩)
theorem class_c (k : Int) (hk : I64 k) (w : World) : Calls Try.prog 58 #[.int .i64 k] w fun e w' => e = .returned (.int .i64 (clsV k)) ∧ Below w.heap.size w w' := by
  unfold clsV
  have h0 := hk.lo
  have h1 := hk.hi
  by_cases h : 3 ≤ k
  · have hw : IntKind.i64.wrap (k - 1) = k - 1 := by rw [wrap_i64]; omega
    clear h0 h1 hk
    go_enter Try.func58, Try.ntmps58
    go_wp2
    go_ret
    exact ⟨rfl, Below.refl _ _⟩
  · clear h0 h1 hk
    go_enter Try.func58, Try.ntmps58
    go_wp2
    go_ret
    exact ⟨rfl, Below.refl _ _⟩
theorem cmpstring_run (a b : List UInt8) (w : World) : (callFunc 89 #[.string (st a), .string (st b)]).run Try.prog w = .ok (.value (.int .i64 (Go.Lib.compareBytes a b))) w := by
  rw [run_callFunc_extern (e := Extern.BytealgCompare.compare) Try.func89 (by kernel_rfl) (by kernel_rfl) (by kernel_rfl) (by kernel_rfl), Go.Lib.run_compareString]
  rfl
theorem strCompare_c (a b : List UInt8) (w : World) : Calls Try.prog 60 #[.string (st a), .string (st b)] w fun e w' => e = .returned (.int .i64 (Go.Lib.compareBytes a b)) ∧ Below w.heap.size w w' := by
  have hx := cmpstring_run a b
  go_enter Try.func60, Try.ntmps60
  go_wp2
  go_ret
  exact ⟨rfl, Below.refl _ _⟩

def numV (ka kb na nb : Int) (fa fb : Nat) : Int := if ka = 2 ∧ kb = 2 then sgnI na nb else if ka = 2 then mixF na fb else if kb = 2 then - mixF nb fa else cmpF fa fb
theorem numV_eq (ka kb na nb : Int) (fa fb : Nat) (ba bb : Bool) (sa sb : List UInt8) (la lb : List Val) (ha : ka = 2 ∨ ka = 3) (hb : kb = 2 ∨ kb = 3) : cmpV (.mk ka ba na fa sa la) (.mk kb bb nb fb sb lb) = numV ka kb na nb fa fb := by
  rcases ha with rfl | rfl <;> rcases hb with rfl | rfl <;> simp [cmpV, numV, rcls]

set_option maxRecDepth 8000 in
set_option maxHeartbeats 4000000 in
theorem number_c (ka kb na nb : Int) (fa fb : Nat) (ba bb : Bool) (sa sb : List UInt8) (A B : Option Addr) (lena capa lenb capb : Nat) (hka : ka = 2 ∨ ka = 3) (hkb : kb = 2 ∨ kb = 3) (hna : I64 na) (hnb : I64 nb) (hfa : U64 fa) (hfb : U64 fb) (w : World) :
    Calls Try.prog 59 #[valV ka ba na fa sa A lena capa, valV kb bb nb fb sb B lenb capb] w fun e w' => e = .returned (.int .i64 (numV ka kb na nb fa fb)) ∧ Below w.heap.size w w' := by
  have c1 := compareI64_c na nb
  have c2 := fun w => mix_c na fb w hna hfb
  have c3 := fun w => mix_c nb fa w hnb hfa
  have c4 := fun w => cmp_c fa fb w hfa hfb
  have hw : IntKind.i64.wrap (- mixF nb fa) = - mixF nb fa := by
    have := mixF_range nb fa
    rcases this with h | h | h <;> rw [h] <;> decide
  have hh : Below w.heap.size w ((w.alloc (.cells #[.int .i64 ka, .bool ba, .int .i64 na, .float .f64 fa, .string (st sa), .slice A lena capa] 27)).alloc (.cells #[.int .i64 kb, .bool bb, .int .i64 nb, .float .f64 fb, .string (st sb), .slice B lenb capb] 27)) := (below_alloc w _).alloc (by simp) _
  rcases hka with rfl | rfl <;> rcases hkb with rfl | rfl
  · go_enter Try.func59, Try.ntmps59
    go_wp2_with ((with_reducible refine (c1 _).mono ?_); rintro e w2 ⟨rfl, hb⟩)
    go_ret
    exact ⟨by simp [numV], hh.trans (hb.mono hh.size)⟩
  · go_enter Try.func59, Try.ntmps59
    go_wp2_with ((with_reducible refine (c2 _).mono ?_); rintro e w2 ⟨rfl, hb⟩)
    go_ret
    exact ⟨by simp [numV], hh.trans (hb.mono hh.size)⟩
  · go_enter Try.func59, Try.ntmps59
    go_wp2_with ((with_reducible refine (c3 _).mono ?_); rintro e w2 ⟨rfl, hb⟩)
    go_ret
    exact ⟨by simp [numV], hh.trans (hb.mono hh.size)⟩
  · go_enter Try.func59, Try.ntmps59
    go_wp2_with ((with_reducible refine (c4 _).mono ?_); rintro e w2 ⟨rfl, rfl⟩)
    go_ret
    exact ⟨by simp [numV], hh⟩

/-- the parts of a slice of values -/
def Parts (w : World) (A : Option Addr) (la : List Val) : Prop := ∀ (i : Nat) (x : Val), la[i]? = some x → ∃ ad k b n f s B len c, A = some ad ∧ Has w (valV k b n f s B len c) x ∧ ValAt w (ad.add (i * 6)) k b n f s B len c
theorem Parts.keep {w w' : World} {A : Option Addr} {la : List Val} (h : Parts w A la) (hb : Below w.heap.size w w') : Parts w' A la := fun i x hx => by
  obtain ⟨ad, k, b, n, f, s, B, len, c, h1, h2, h3⟩ := h i x hx
  exact ⟨ad, k, b, n, f, s, B, len, c, h1, h2.keep hb, h3.keep hb⟩

set_option maxRecDepth 8000 in
set_option maxHeartbeats 4000000 in
theorem compareFunc_c (la lb : List Val) (A B : Option Addr) (capa capb : Nat) (w : World) (hpa : Parts w A la) (hpb : Parts w B lb) (hma : la.length ≤ maxLen) (hmb : lb.length ≤ maxLen)
    (hrec : ∀ (i : Nat) (x : Val), la[i]? = some x → ∀ y u v w', Has w' u x → Has w' v y → Calls Try.prog 33 #[u, v] w' (IntEnds (cmpV x y) w')) :
    Calls Try.prog 61 #[.slice A la.length capa, .slice B lb.length capb, .func (.func 33) #[] #[]] w (IntEnds (cmpVL la lb) w) := by
  unfold maxLen at hma hmb
  go_enter Try.func61, Try.ntmps61
  go_wp2
  go_loopw [13] (fun a13 wr => ∃ i : Nat, a13 = .int .i64 i ∧ i ≤ la.length ∧ i ≤ lb.length ∧ Hid (cmpVL la lb = cmpVL (la.drop i) (lb.drop i)) ∧ Below w.heap.size w wr) (fun a _ => la.length - (intOf a).toNat)
  case atStart => exact ⟨0, rfl, Nat.zero_le _, Nat.zero_le _, rfl, Below.refl _ _⟩
  case round =>
    obtain ⟨i, rfl, hia, hib, hcm, hbr⟩ := hrel
    by_cases hin : i < la.length ∧ i < lb.length
    · have hla' : (i : Int) < la.length := by omega
      have hlb' : ¬ (lb.length : Int) ≤ i := by omega
      have hlb2 : (i : Int) < lb.length := by omega
      obtain ⟨ad, k, b, n, f, s, C, len, c, rfl, hx, hat⟩ := hpa i la[i] (by simp [hin.1])
      obtain ⟨ae, k', b', n', f', s', D, len', c', rfl, hy, hau⟩ := hpb i lb[i] (by simp [hin.2])
      obtain ⟨q0, q1, q2, q3, q4, q5, q6⟩ := hat.keep hbr
      obtain ⟨s0, s1, s2, s3, s4, s5, s6⟩ := hau.keep hbr
      have wi : IntKind.i64.wrap ((i : Int) + 1) = (i : Int) + 1 := by rw [wrap_i64]; omega
      have hst := Lib.hid (cmpVL_step (la := la) (lb := lb) (i := i) (x := la[i]) (y := lb[i]) (by simp [hin.1]) (by simp [hin.2]))
      have hxr := hx.keep hbr
      have hyr := hy.keep hbr
      have cr : ∀ w', Below wr.heap.size wr w' → Calls Try.prog 33 #[valV k b n f s C len c, valV k' b' n' f' s' D len' c'] w' (IntEnds (cmpV la[i] lb[i]) w') :=
        fun w' hb => hrec i la[i] (by simp [hin.1]) lb[i] _ _ w' (hxr.keep hb) (hyr.keep hb)
      have b2 : ∀ o1 o2, Below wr.heap.size wr ((wr.alloc o1).alloc o2) := fun o1 o2 => (below_alloc wr o1).alloc (by simp) o2
      generalize la[i] = x at *
      generalize lb[i] = y at *
      generalize cmpV x y = cv at *
      clear hx hy hxr hyr hat hau hpa hpb hrec
      by_cases hc0 : cv = 0
      · have hcb : (cv != 0) = false := by simpa using hc0
        go_wp2_with ((with_reducible refine (cr _ (b2 _ _)).mono ?_); rintro e w2 ⟨rfl, hb2⟩)
        refine ⟨⟨i + 1, rfl, hin.1, hin.2, ?_, hbr.trans (((b2 _ _).trans (hb2.mono (b2 _ _).size)).mono hbr.size)⟩, by simp [intOf]; omega⟩
        show _ = _
        rw [hcm.out, hst.out, if_neg (by simp [hc0])]
      · have hcb : (cv != 0) = true := by simpa using hc0
        go_wp2_with ((with_reducible refine (cr _ (b2 _ _)).mono ?_); rintro e w2 ⟨rfl, hb2⟩)
        go_ret
        exact ⟨ret_int (by rw [hcm.out, hst.out, if_pos hc0]), hbr.trans (((b2 _ _).trans (hb2.mono (b2 _ _).size)).mono hbr.size)⟩
    · have hfin : cmpVL la lb = sgnI la.length lb.length := by
        rw [hcm.out]
        exact cmpVL_end (by omega) hia hib
      have hF := Lib.hid hfin
      clear hfin
      by_cases hil : i < la.length
      · have hla' : (i : Int) < la.length := by omega
        have hlb' : (lb.length : Int) ≤ i := by omega
        obtain ⟨ad, k, b, n, f, s, C, len, c, rfl, hx, hat⟩ := hpa i la[i] (by simp)
        obtain ⟨q0, q1, q2, q3, q4, q5, q6⟩ := hat.keep hbr
        clear hpb hpa hrec hx hat
        go_wp2_with fail
        go_ret
        exact ⟨ret_int (by rw [hF.out]; unfold sgnI; rw [if_neg (by omega), if_pos (by omega)]), hbr.trans ((below_alloc _ _).mono hbr.size)⟩
      · have hla' : ¬ (i : Int) < la.length := by omega
        clear hpb hpa hrec
        by_cases hll : la.length < lb.length
        · have hll' : (la.length : Int) < lb.length := by omega
          go_wp2_with fail
          go_ret
          exact ⟨ret_int (by rw [hF.out]; unfold sgnI; rw [if_pos (by omega)]), hbr⟩
        · have hll' : ¬ (la.length : Int) < lb.length := by omega
          go_wp2_with fail
          go_ret
          exact ⟨ret_int (by rw [hF.out]; unfold sgnI; rw [if_neg (by omega), if_neg (by omega)]), hbr⟩

set_option maxRecDepth 8000 in
set_option maxHeartbeats 4000000 in
theorem cmpv_c (a : Val) : ∀ (b : Val) (u v : Value) (w : World), Has w u a → Has w v b → Calls Try.prog 33 #[u, v] w (IntEnds (cmpV a b) w) := by
  generalize hz : wsz a = z
  induction z using Nat.strongRecOn generalizing a with
  | _ z ih =>
    intro b u v w hu hv
    obtain ⟨A, capa, rfl, ik, im, jf, hsa, hlba, hla, hca, hpa⟩ := hu.open
    obtain ⟨B, capb, rfl, jk, jm, kf, hsb, hlbb, hlb, hcb, hpb⟩ := hv.open
    have hpart := fun i x => wsz_part (v := a) (x := x) (i := i)
    rw [hz] at hpart
    obtain ⟨ka, ba, na, fa, sa, la⟩ := a
    obtain ⟨kb, bb, nb, fb, sb, lb⟩ := b
    dsimp only [Val.k, Val.b, Val.n, Val.f, Val.s, Val.l] at *
    have hPa : Parts w A la := hpa
    have hPb : Parts w B lb := hpb
    have c1 := fun w => class_c ka ik w
    have c2 := fun w => class_c kb jk w
    have c3 := fun w => compareInt_c (clsV ka) (clsV kb) w
    have c6 : ∀ p : World, Below w.heap.size w p → Calls Try.prog 61 #[.slice A la.length capa, .slice B lb.length capb, .func (.func 33) #[] #[]] p (IntEnds (cmpVL la lb) p) :=
      fun p hp => compareFunc_c la lb A B capa capb p (hPa.keep hp) (hPb.keep hp) (Nat.le_trans hla hca) (Nat.le_trans hlb hcb) (fun i x hx y u v w' h1 h2 => ih (wsz x) (hpart i x hx) x rfl y u v w' h1 h2)
    clear hu hv hz hpart ih hPa hPb hpa hpb
    unfold maxLen at hca hcb
    go_enter Try.func33, Try.ntmps33
    go_wp2
    obtain ⟨w1, hw1⟩ : ∃ w1, w1 = (w.alloc (.cells #[.int .i64 ka, .bool ba, .int .i64 na, .float .f64 fa, .string (st sa), .slice A la.length capa] 27)).alloc (.cells #[.int .i64 kb, .bool bb, .int .i64 nb, .float .f64 fb, .string (st sb), .slice B lb.length capb] 27) := ⟨_, rfl⟩
    have bk : Below w.heap.size w w1 := hw1 ▸ (below_alloc w _).alloc (by simp) _
    obtain ⟨x6, x0, x1, x2, x3, x4, x5⟩ : Box w1 w.heap.size ka ba na fa sa A la.length capa := hw1 ▸ (Box.new w ka ba na fa sa A la.length capa _).keep (below_alloc _ _)
    obtain ⟨y6, y0, y1, y2, y3, y4, y5⟩ : Box w1 (w.heap.size + 1) kb bb nb fb sb B lb.length capb := hw1 ▸ Box.new2 w kb bb nb fb sb B lb.length capb _ _
    rw [← hw1]
    clear hw1
    have hcs := cls_sgn ka kb
    by_cases hne : rcls ka ≠ rcls kb
    · have hv := cmpV_apart hne ba bb na nb fa fb sa sb la lb
      have hsg : sgnI (clsV ka) (clsV kb) = (if rcls ka < rcls kb then -1 else 1) := by
        rw [hcs]; unfold sgnI; split
        · rfl
        · rw [if_pos (by omega)]
      have hn0 : (sgnI (clsV ka) (clsV kb) != 0) = true := by
        rw [hsg]; split <;> decide
      have hS := Lib.hid hsg
      clear hcs hsg
      generalize sgnI (clsV ka) (clsV kb) = cv at *
      (refine wp_region_flow [] (by kernel_rfl) (by kernel_rfl) ?_; (repeat (((with_reducible refine wpFlow_steps ?_); intro K hK; go_simp; first | (with_reducible refine hK _ ?_; clear hK K) | (apply Exists.intro; (with_reducible refine ⟨fun _ => ⟨?_, _, rfl⟩, hK _ ?_⟩); (· exact rfl); clear hK K) | (apply Exists.intro; (with_reducible refine ⟨fun _ => ⟨_, rfl⟩, hK _ ?_⟩); clear hK K) | (apply Exists.intro; (with_reducible refine ⟨fun _ => ?_, hK _ ?_⟩); (· (with_reducible (first | exact c1 _ | exact c2 _ | exact c3 _))); clear hK K)))); (refine wpFlow_nil ?_; rintro w1 ⟨q0, hq0⟩; have hb := In.h q0; rw [← hq0] at hb; clear hq0 q0; (first | ((with_reducible obtain ⟨p, hw''⟩ := In.of2 p hb); subst hw'') | (obtain ⟨p, hw''⟩ := In.of hb; subst hw'')); go_simp; intros))
      go_wp2
      go_ret
      exact ⟨ret_int (by rw [hS.out, hv]), p.back bk⟩
    · have heq : rcls ka = rcls kb := Classical.not_not.1 hne
      have hs0 : sgnI (clsV ka) (clsV kb) = 0 := by rw [hcs, heq]; simp [sgnI]
      rw [hs0] at c3
      have hcases : (ka = 1 ∧ kb = 1) ∨ ((ka = 2 ∨ ka = 3) ∧ (kb = 2 ∨ kb = 3)) ∨ (ka = 4 ∧ kb = 4) ∨ ((ka = 5 ∨ ka = 6) ∧ kb = ka) ∨ (ka ≠ 1 ∧ ka ≠ 2 ∧ ka ≠ 3 ∧ ka ≠ 4 ∧ ka ≠ 5 ∧ ka ≠ 6 ∧ kb = ka) := by
        unfold rcls at heq
        split at heq <;> split at heq <;> omega
      clear hne heq hcs hs0
      rcases hcases with ⟨rfl, rfl⟩ | ⟨h23, h23'⟩ | ⟨rfl, rfl⟩ | ⟨h56, rfl⟩ | ⟨n1, n2, n3, n4, n5, n6, rfl⟩
      · have hv : cmpV (.mk 1 ba na fa sa la) (.mk 1 bb nb fb sb lb) = (if ba = bb then 0 else if bb then -1 else 1) := by simp [cmpV]
        (refine wp_region_flow [] (by kernel_rfl) (by kernel_rfl) ?_; (repeat (((with_reducible refine wpFlow_steps ?_); intro K hK; go_simp; first | (with_reducible refine hK _ ?_; clear hK K) | (apply Exists.intro; (with_reducible refine ⟨fun _ => ⟨?_, _, rfl⟩, hK _ ?_⟩); (· exact rfl); clear hK K) | (apply Exists.intro; (with_reducible refine ⟨fun _ => ⟨_, rfl⟩, hK _ ?_⟩); clear hK K) | (apply Exists.intro; (with_reducible refine ⟨fun _ => ?_, hK _ ?_⟩); (· (with_reducible (first | exact c1 _ | exact c2 _ | exact c3 _))); clear hK K)))); (refine wpFlow_nil ?_; rintro w1 ⟨q0, hq0⟩; have hb := In.h q0; rw [← hq0] at hb; clear hq0 q0; (first | ((with_reducible obtain ⟨p, hw''⟩ := In.of2 p hb); subst hw'') | (obtain ⟨p, hw''⟩ := In.of hb; subst hw'')); go_simp; intros))
        cases ba <;> cases bb <;> go_wp2
        all_goals
          go_ret
          exact ⟨ret_int (by first | rfl | (rw [hv]; rfl)), p.back bk⟩
      · have hv := numV_eq ka kb na nb fa fb ba bb sa sb la lb h23 h23'
        have c4 := fun w => number_c ka kb na nb fa fb ba bb sa sb A B la.length capa lb.length capb h23 h23' im jm jf kf w
        have hH := Lib.hid h23'
        clear h23'
        rcases h23 with rfl | rfl
        · (refine wp_region_flow [] (by kernel_rfl) (by kernel_rfl) ?_; (repeat (((with_reducible refine wpFlow_steps ?_); intro K hK; go_simp; first | (with_reducible refine hK _ ?_; clear hK K) | (apply Exists.intro; (with_reducible refine ⟨fun _ => ⟨?_, _, rfl⟩, hK _ ?_⟩); (· exact rfl); clear hK K) | (apply Exists.intro; (with_reducible refine ⟨fun _ => ⟨_, rfl⟩, hK _ ?_⟩); clear hK K) | (apply Exists.intro; (with_reducible refine ⟨fun _ => ?_, hK _ ?_⟩); (· (with_reducible (first | exact c1 _ | exact c2 _ | exact c3 _))); clear hK K)))); (refine wpFlow_nil ?_; rintro w1 ⟨q0, hq0⟩; have hb := In.h q0; rw [← hq0] at hb; clear hq0 q0; (first | ((with_reducible obtain ⟨p, hw''⟩ := In.of2 p hb); subst hw'') | (obtain ⟨p, hw''⟩ := In.of hb; subst hw'')); go_simp; intros))
          go_wp2_with ((with_reducible refine (c4 _).mono ?_); rintro e w2 ⟨rfl, hb2⟩; (first | ((with_reducible obtain ⟨p, hw''⟩ := In.of2 p hb2); subst hw'') | (obtain ⟨p, hw''⟩ := In.of hb2; subst hw'')))
          go_ret
          exact ⟨ret_int hv.symm, p.back bk⟩
        · (refine wp_region_flow [] (by kernel_rfl) (by kernel_rfl) ?_; (repeat (((with_reducible refine wpFlow_steps ?_); intro K hK; go_simp; first | (with_reducible refine hK _ ?_; clear hK K) | (apply Exists.intro; (with_reducible refine ⟨fun _ => ⟨?_, _, rfl⟩, hK _ ?_⟩); (· exact rfl); clear hK K) | (apply Exists.intro; (with_reducible refine ⟨fun _ => ⟨_, rfl⟩, hK _ ?_⟩); clear hK K) | (apply Exists.intro; (with_reducible refine ⟨fun _ => ?_, hK _ ?_⟩); (· (with_reducible (first | exact c1 _ | exact c2 _ | exact c3 _))); clear hK K)))); (refine wpFlow_nil ?_; rintro w1 ⟨q0, hq0⟩; have hb := In.h q0; rw [← hq0] at hb; clear hq0 q0; (first | ((with_reducible obtain ⟨p, hw''⟩ := In.of2 p hb); subst hw'') | (obtain ⟨p, hw''⟩ := In.of hb; subst hw'')); go_simp; intros))
          go_wp2_with ((with_reducible refine (c4 _).mono ?_); rintro e w2 ⟨rfl, hb2⟩; (first | ((with_reducible obtain ⟨p, hw''⟩ := In.of2 p hb2); subst hw'') | (obtain ⟨p, hw''⟩ := In.of hb2; subst hw'')))
          go_ret
          exact ⟨ret_int hv.symm, p.back bk⟩
      · have hv : cmpV (.mk 4 ba na fa sa la) (.mk 4 bb nb fb sb lb) = Go.Lib.compareBytes sa sb := by simp [cmpV]
        have c4 := fun w => strCompare_c sa sb w
        (refine wp_region_flow [] (by kernel_rfl) (by kernel_rfl) ?_; (repeat (((with_reducible refine wpFlow_steps ?_); intro K hK; go_simp; first | (with_reducible refine hK _ ?_; clear hK K) | (apply Exists.intro; (with_reducible refine ⟨fun _ => ⟨?_, _, rfl⟩, hK _ ?_⟩); (· exact rfl); clear hK K) | (apply Exists.intro; (with_reducible refine ⟨fun _ => ⟨_, rfl⟩, hK _ ?_⟩); clear hK K) | (apply Exists.intro; (with_reducible refine ⟨fun _ => ?_, hK _ ?_⟩); (· (with_reducible (first | exact c1 _ | exact c2 _ | exact c3 _))); clear hK K)))); (refine wpFlow_nil ?_; rintro w1 ⟨q0, hq0⟩; have hb := In.h q0; rw [← hq0] at hb; clear hq0 q0; (first | ((with_reducible obtain ⟨p, hw''⟩ := In.of2 p hb); subst hw'') | (obtain ⟨p, hw''⟩ := In.of hb; subst hw'')); go_simp; intros))
        go_wp2_with ((with_reducible refine (c4 _).mono ?_); rintro e w2 ⟨rfl, hb2⟩; (first | ((with_reducible obtain ⟨p, hw''⟩ := In.of2 p hb2); subst hw'') | (obtain ⟨p, hw''⟩ := In.of hb2; subst hw'')))
        go_ret
        exact ⟨ret_int hv.symm, p.back bk⟩
      · have hv : cmpV (.mk kb ba na fa sa la) (.mk kb bb nb fb sb lb) = cmpVL la lb := by
          rcases h56 with h | h <;> simp [cmpV, h]
        rcases h56 with rfl | rfl
        · (refine wp_region_flow [] (by kernel_rfl) (by kernel_rfl) ?_; (repeat (((with_reducible refine wpFlow_steps ?_); intro K hK; go_simp; first | (with_reducible refine hK _ ?_; clear hK K) | (apply Exists.intro; (with_reducible refine ⟨fun _ => ⟨?_, _, rfl⟩, hK _ ?_⟩); (· exact rfl); clear hK K) | (apply Exists.intro; (with_reducible refine ⟨fun _ => ⟨_, rfl⟩, hK _ ?_⟩); clear hK K) | (apply Exists.intro; (with_reducible refine ⟨fun _ => ?_, hK _ ?_⟩); (· (with_reducible (first | exact c1 _ | exact c2 _ | exact c3 _))); clear hK K)))); (refine wpFlow_nil ?_; rintro w1 ⟨q0, hq0⟩; have hb := In.h q0; rw [← hq0] at hb; clear hq0 q0; (first | ((with_reducible obtain ⟨p, hw''⟩ := In.of2 p hb); subst hw'') | (obtain ⟨p, hw''⟩ := In.of hb; subst hw'')); go_simp; intros))
          go_wp2_with ((with_reducible refine (c6 _ (p.back bk)).mono ?_); rintro e w2 ⟨rfl, hb2⟩; (first | ((with_reducible obtain ⟨p, hw''⟩ := In.of2 p hb2); subst hw'') | (obtain ⟨p, hw''⟩ := In.of hb2; subst hw'')))
          go_ret
          exact ⟨ret_int hv.symm, p.back bk⟩
        · (refine wp_region_flow [] (by kernel_rfl) (by kernel_rfl) ?_; (repeat (((with_reducible refine wpFlow_steps ?_); intro K hK; go_simp; first | (with_reducible refine hK _ ?_; clear hK K) | (apply Exists.intro; (with_reducible refine ⟨fun _ => ⟨?_, _, rfl⟩, hK _ ?_⟩); (· exact rfl); clear hK K) | (apply Exists.intro; (with_reducible refine ⟨fun _ => ⟨_, rfl⟩, hK _ ?_⟩); clear hK K) | (apply Exists.intro; (with_reducible refine ⟨fun _ => ?_, hK _ ?_⟩); (· (with_reducible (first | exact c1 _ | exact c2 _ | exact c3 _))); clear hK K)))); (refine wpFlow_nil ?_; rintro w1 ⟨q0, hq0⟩; have hb := In.h q0; rw [← hq0] at hb; clear hq0 q0; (first | ((with_reducible obtain ⟨p, hw''⟩ := In.of2 p hb); subst hw'') | (obtain ⟨p, hw''⟩ := In.of hb; subst hw'')); go_simp; intros))
          go_wp2_with ((with_reducible refine (c6 _ (p.back bk)).mono ?_); rintro e w2 ⟨rfl, hb2⟩; (first | ((with_reducible obtain ⟨p, hw''⟩ := In.of2 p hb2); subst hw'') | (obtain ⟨p, hw''⟩ := In.of hb2; subst hw'')))
          go_ret
          exact ⟨ret_int hv.symm, p.back bk⟩
      · have hv : cmpV (.mk kb ba na fa sa la) (.mk kb bb nb fb sb lb) = sgnI na nb := by simp [cmpV, n1, n2, n3, n4, n5, n6]
        have e1 : (kb == 1) = false := by simpa using n1
        have e2 : (kb == 2) = false := by simpa using n2
        have e3 : (kb == 3) = false := by simpa using n3
        have e4 : (kb == 4) = false := by simpa using n4
        have e5 : (kb == 5) = false := by simpa using n5
        have e6 : (kb == 6) = false := by simpa using n6
        have c4 := fun w => compareI64_c na nb w
        (refine wp_region_flow [] (by kernel_rfl) (by kernel_rfl) ?_; (repeat (((with_reducible refine wpFlow_steps ?_); intro K hK; go_simp; first | (with_reducible refine hK _ ?_; clear hK K) | (apply Exists.intro; (with_reducible refine ⟨fun _ => ⟨?_, _, rfl⟩, hK _ ?_⟩); (· exact rfl); clear hK K) | (apply Exists.intro; (with_reducible refine ⟨fun _ => ⟨_, rfl⟩, hK _ ?_⟩); clear hK K) | (apply Exists.intro; (with_reducible refine ⟨fun _ => ?_, hK _ ?_⟩); (· (with_reducible (first | exact c1 _ | exact c2 _ | exact c3 _))); clear hK K)))); (refine wpFlow_nil ?_; rintro w1 ⟨q0, hq0⟩; have hb := In.h q0; rw [← hq0] at hb; clear hq0 q0; (first | ((with_reducible obtain ⟨p, hw''⟩ := In.of2 p hb); subst hw'') | (obtain ⟨p, hw''⟩ := In.of hb; subst hw'')); go_simp; intros))
        go_wp2_with ((with_reducible refine (c4 _).mono ?_); rintro e w2 ⟨rfl, hb2⟩; (first | ((with_reducible obtain ⟨p, hw''⟩ := In.of2 p hb2); subst hw'') | (obtain ⟨p, hw''⟩ := In.of hb2; subst hw'')))
        go_ret
        exact ⟨ret_int hv.symm, p.back bk⟩
theorem samev_c (a b : Val) (u v : Value) (w : World) (hu : Has w u a) (hv : Has w v b) : Calls Try.prog 55 #[u, v] w fun e w' => e = .returned (.bool (cmpV a b == 0)) ∧ Below w.heap.size w w' := by
  have c := fun w' hb => cmpv_c a b u v w' (hu.keep hb) (hv.keep hb)
  have b2 : ∀ o1 o2, Below w.heap.size w ((w.alloc o1).alloc o2) := fun o1 o2 => (below_alloc w o1).alloc (by simp) o2
  obtain ⟨A, capa, rfl, _⟩ := hu.open
  obtain ⟨B, capb, rfl, _⟩ := hv.open
  go_enter Try.func55, Try.ntmps55
  go_wp2_with ((with_reducible refine (c _ (b2 _ _)).mono ?_); rintro e w2 ⟨rfl, hb2⟩)
  go_ret
  exact ⟨rfl, (b2 _ _).trans (hb2.mono (b2 _ _).size)⟩
end Go.Proofs.Ytipjelkdbbhcpaa
