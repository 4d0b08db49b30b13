
/-
  TravNames, walked.
-/
import Derived.Test.YtfccplkfdhpdgaaTgE
import Derived.Test.YtfccplkfdhpdgaaTrvG
import Derived.Test.YtfccplkfdhpdgaaTrvT
import Derived.Test.YtfccplkfdhpdgaaValS
set_option linter.unusedSimpArgs false
set_option linter.unusedVariables false
namespace Go.Proofs.Ytfccplkfdhpdgaa
open Go.RowKit

theorem named_new {tags : List Tag} {name : List UInt8} {v : Val} : namedV (keepT name tags ++ [(name, v)]) name = some v := by
  have h : (keepT name tags).find? (fun x => x.1 == name) = none := by
    rw [List.find?_eq_none]
    intro x hx
    unfold keepT at hx
    have := (List.mem_filter.1 hx).2
    simpa using this
  unfold namedV
  rw [List.find?_append, h]
  simp
theorem named_other {tags : List Tag} {name other : List UInt8} {v : Val} (hne : ¬ other = name) : namedV (keepT name tags ++ [(name, v)]) other = namedV tags other := by
  have h : (keepT name tags).find? (fun x => x.1 == other) = tags.find? (fun x => x.1 == other) := by
    induction tags with
    | nil => rfl
    | cons y l ih =>
      unfold keepT at ih ⊢
      by_cases hy : y.1 = other
      · have hyn : (y.1 == name) = false := by simpa using fun e => hne (hy.symm.trans e)
        rw [List.filter_cons_of_pos (by rw [hyn]; rfl), List.find?_cons_of_pos (by simpa using hy), List.find?_cons_of_pos (by simpa using hy)]
      · rw [List.find?_cons_of_neg (l := l) (by simpa using hy)]
        by_cases hyn : (y.1 == name) = true
        · rw [List.filter_cons_of_neg (by rw [hyn]; simp)]
          exact ih
        · rw [List.filter_cons_of_pos (by simpa using hyn), List.find?_cons_of_neg (by simpa using hy)]
          exact ih
  unfold namedV
  rw [List.find?_append, h]
  have : [(name, v)].find? (fun x => x.1 == other) = none := by simp; exact fun e => hne e.symm
  rw [this]
  simp
/-- a variable that holds a traverser -/
structure TBox (w : World) (G : Nat) (k : Int) (b : Bool) (n : Int) (f : Nat) (s : List UInt8) (B : Option Addr) (len c : Nat) (P : Option Addr) (pl pc : Nat) (T : Option Addr) (tl tc : Nat) (q : Int) : Prop where
  lt : G < w.heap.size
  c0 : w.cell? ⟨G, 0, none⟩ = some (.int .i64 k)
  c1 : w.cell? ⟨G, 1, none⟩ = some (.bool b)
  c2 : w.cell? ⟨G, 2, none⟩ = some (.int .i64 n)
  c3 : w.cell? ⟨G, 3, none⟩ = some (.float .f64 f)
  c4 : w.cell? ⟨G, 4, none⟩ = some (.string (st s))
  c5 : w.cell? ⟨G, 5, none⟩ = some (.slice B len c)
  c6 : w.cell? ⟨G, 6, none⟩ = some (.slice P pl pc)
  c7 : w.cell? ⟨G, 7, none⟩ = some (.slice T tl tc)
  c8 : w.cell? ⟨G, 8, none⟩ = some (.int .i64 q)
theorem TBox.keep {w w' : World} {G : Nat} {k : Int} {b : Bool} {n : Int} {f : Nat} {s : List UInt8} {B : Option Addr} {len c : Nat} {P : Option Addr} {pl pc : Nat} {T : Option Addr} {tl tc : Nat} {q : Int} (h : TBox w G k b n f s B len c P pl pc T tl tc q) (hb : Below w.heap.size w w') : TBox w' G k b n f s B len c P pl pc T tl tc q :=
  ⟨Nat.lt_of_lt_of_le h.lt hb.size, (hb.cell (p := ⟨G, 0, none⟩) h.lt).trans h.c0, (hb.cell (p := ⟨G, 1, none⟩) h.lt).trans h.c1, (hb.cell (p := ⟨G, 2, none⟩) h.lt).trans h.c2, (hb.cell (p := ⟨G, 3, none⟩) h.lt).trans h.c3, (hb.cell (p := ⟨G, 4, none⟩) h.lt).trans h.c4, (hb.cell (p := ⟨G, 5, none⟩) h.lt).trans h.c5, (hb.cell (p := ⟨G, 6, none⟩) h.lt).trans h.c6, (hb.cell (p := ⟨G, 7, none⟩) h.lt).trans h.c7, (hb.cell (p := ⟨G, 8, none⟩) h.lt).trans h.c8⟩
theorem TBox.new (w : World) (k : Int) (b : Bool) (n : Int) (f : Nat) (s : List UInt8) (B : Option Addr) (len c : Nat) (P : Option Addr) (pl pc : Nat) (T : Option Addr) (tl tc : Nat) (q : Int) (Y : TypeId) : TBox (w.alloc (.cells #[.int .i64 k, .bool b, .int .i64 n, .float .f64 f, .string (st s), .slice B len c, .slice P pl pc, .slice T tl tc, .int .i64 q] Y)) w.heap.size k b n f s B len c P pl pc T tl tc q := by
  have h := alloc_here w (.cells #[.int .i64 k, .bool b, .int .i64 n, .float .f64 f, .string (st s), .slice B len c, .slice P pl pc, .slice T tl tc, .int .i64 q] Y)
  exact ⟨(Array.getElem?_eq_some_iff.1 h).1, cell_of h 0, cell_of h 1, cell_of h 2, cell_of h 3, cell_of h 4, cell_of h 5, cell_of h 6, cell_of h 7, cell_of h 8⟩
set_option maxRecDepth 8000 in
set_option maxHeartbeats 8000000 in
theorem travNames_walk (k : Int) (b : Bool) (n : Int) (f : Nat) (s : List UInt8) (B : Option Addr) (len c : Nat) (P : Option Addr) (pl pc : Nat) (T : Option Addr) (tl tc : Nat) (q : Int) (t : TravD) (name other : List UInt8) (w : World) (ht : HasT w k b n f s B len c P pl pc T tl tc q t) :
    Calls Try.prog 8 #[travV k b n f s B len c P pl pc T tl tc q, .string (st name), .string (st other)] w fun e w' => e = .returned (.bool true) ∧ Below w.heap.size w w' := by
  have c1 := cut_one k b n f s B len c P pl pc T tl tc q t (w.alloc (.cells #[.int .i64 k, .bool b, .int .i64 n, .float .f64 f, .string (st s), .slice B len c, .slice P pl pc, .slice T tl tc, .int .i64 q] 34)) (ht.keep (below_alloc w _))
  rw [show (w.alloc (.cells #[.int .i64 k, .bool b, .int .i64 n, .float .f64 f, .string (st s), .slice B len c, .slice P pl pc, .slice T tl tc, .int .i64 q] 34)).heap.size = w.heap.size + 1 from by simp] at c1
  clear ht
  go_enter Try.func8, Try.ntmps8
  go_upto_region 2 with ((with_reducible refine c1.mono ?_); rintro e w2 ⟨A, capA, ys, rfl, hp, hyc, hcm, h12, hsm, hb2⟩)
  have B2 : Below w.heap.size w w2 := (below_alloc w _).trans (hb2.mono (by simp))
  clear c1 hb2
  cases ys with
  | nil =>
    go_wp2_with ((with_reducible refine (awake_c _).mono ?_); rintro e w3 ⟨rfl, hb3⟩)
    go_ret
    exact ⟨rfl, B2.trans (hb3.mono B2.size)⟩
  | cons y ys =>
    obtain ⟨ad, k, b, n, f, s, B, len, c, P, pl, pc, T, tl, tc, q, rfl, ht, hat⟩ := hp 0 y rfl
    have ha : ad.add (0 * 9) = ad := by simp [Addr.add]
    rw [ha] at hat
    have h4 := (hsm y (by simp)).tags
    have etl := ht.etl
    subst etl
    have hTn := TagsN.of ht.ht
    have hvn := ht.hv
    clear hp hsm ha hcm hyc ht
    have hne : ((ys.length : Int) + 1 == 0) = false := by simp; omega
    have hpos : 0 < (ys.length : Int) + 1 := by omega
    generalize ys.length = ny at *
    obtain ⟨q9, q0, q1, q2, q3, q4, q5, q6, q7, q8⟩ := hat
    go_upto_region 5 with fail
    obtain ⟨w3, hw3⟩ : ∃ w3, w3 = w2.alloc (.cells #[.int .i64 k, .bool b, .int .i64 n, .float .f64 f, .string (st s), .slice B len c, .slice P pl pc, .slice T y.tags.length tc, .int .i64 q] 34) := ⟨_, rfl⟩
    have b23 : Below w2.heap.size w2 w3 := hw3 ▸ below_alloc _ _
    have hx3 : TBox w3 w2.heap.size k b n f s B len c P pl pc T y.tags.length tc q := hw3 ▸ TBox.new _ _ _ _ _ _ _ _ _ _ _ _ _ _ _ _ _
    have B3 := B2.trans (b23.mono B2.size)
    have hv3 := hvn.keep b23
    have hT3 := hTn.keep b23
    rw [← hw3]
    clear hw3 q9 q0 q1 q2 q3 q4 q5 q6 q7 q8 hvn hTn b23 B2
    generalize w2.heap.size = G8 at *
    have cn := name_c k b n f s B len c P pl pc T tc q y.tags name y.v w3 hv3 hT3 (by omega)
    have hx3' := hx3
    obtain ⟨q9, q0, q1, q2, q3, q4, q5, q6, q7, q8⟩ := hx3'
    have hnew := named_new (tags := y.tags) (name := name) (v := y.v)
    have hold := fun h => named_other (tags := y.tags) (name := name) (v := y.v) (other := other) h
    have hln : (keepT name y.tags ++ [(name, y.v)]).length ≤ 100000 := by
      rw [List.length_append]
      have := List.length_filter_le (fun z : Tag => !(z.1 == name)) y.tags
      unfold keepT
      simp
      omega
    unfold NameEnds at cn
    generalize keepT name y.tags ++ [(name, y.v)] = tg at *
    go_upto_region 6 with ((with_reducible refine cn.mono ?_); rintro e w4 ⟨T9, tc9, rfl, hT4, hb4⟩)
    obtain ⟨w5, hw5⟩ : ∃ w5, w5 = w4.alloc (.cells #[.int .i64 k, .bool b, .int .i64 n, .float .f64 f, .string (st s), .slice B len c, .slice P pl pc, .slice T9 tg.length tc9, .int .i64 q] 34) := ⟨_, rfl⟩
    have b45 : Below w4.heap.size w4 w5 := hw5 ▸ below_alloc _ _
    have b35 : Below w3.heap.size w3 w5 := hb4.trans (b45.mono hb4.size)
    have hx5 : TBox w5 w4.heap.size k b n f s B len c P pl pc T9 tg.length tc9 q := hw5 ▸ TBox.new _ _ _ _ _ _ _ _ _ _ _ _ _ _ _ _ _
    have hy5 := hx3.keep b35
    have B5 := B3.trans (b35.mono B3.size)
    have hv5 := hv3.keep b35
    have hT5 := hT3.keep b35
    have hN5 := hT4.keep b45
    rw [← hw5]
    clear hw5 q9 q0 q1 q2 q3 q4 q5 q6 q7 q8 hv3 hT3 hT4 b45 b35 B3 hx3 cn hb4
    generalize w4.heap.size = G9 at *
    have cd := named_c k b n f s B len c P pl pc T9 tc9 q tg name w5 hN5 hln
    rw [hnew] at cd
    unfold NamedEnds at cd
    have hx5' := hx5
    obtain ⟨q9, q0, q1, q2, q3, q4, q5, q6, q7, q8⟩ := hx5'
    go_upto_region 7 with ((with_reducible refine cd.mono ?_); rintro e w6 ⟨k6, b6, n6, f6, s6, B6, len6, c6, rfl, hv6, hb6⟩)
    obtain ⟨w7, hw7⟩ : ∃ w7, w7 = w6.alloc (.cells #[.int .i64 k6, .bool b6, .int .i64 n6, .float .f64 f6, .string (st s6), .slice B6 len6 c6] 31) := ⟨_, rfl⟩
    have b67 : Below w6.heap.size w6 w7 := hw7 ▸ below_alloc _ _
    have b57 : Below w5.heap.size w5 w7 := hb6.trans (b67.mono hb6.size)
    have hz7 : Box w7 w6.heap.size k6 b6 n6 f6 s6 B6 len6 c6 := hw7 ▸ Box.new _ _ _ _ _ _ _ _ _ _
    have hx7 := hx5.keep b57
    have hy7 := hy5.keep b57
    have B7 := B5.trans (b57.mono B5.size)
    have hv7 := hv5.keep b57
    have hT7 := hT5.keep b57
    have hN7 := hN5.keep b57
    have hvx7 : Has w7 (valV k6 b6 n6 f6 s6 B6 len6 c6) y.v := hv6.keep b67
    rw [← hw7]
    clear hw7 q9 q0 q1 q2 q3 q4 q5 q6 q7 q8 hv5 hT5 hN5 b67 b57 B5 hx5 hy5 cd hb6 hv6
    generalize w6.heap.size = G10 at *
    have aw := awake_c w7
    have cs1 : ∀ p : In w7, Calls Try.prog 26 #[valV k6 b6 n6 f6 s6 B6 len6 c6, valV k b n f s B len c] p.w fun e w' => e = .returned (.bool true) ∧ Below p.w.heap.size p.w w' := fun p => by
      have := rsame_c y.v y.v _ _ p.w (hvx7.keep p.h) (hv7.keep p.h)
      rwa [sameV_self] at this
    have cs2 : ∀ p : In w7, Calls Try.prog 26 #[valV k b n f s B len c, valV k b n f s B len c] p.w fun e w' => e = .returned (.bool true) ∧ Below p.w.heap.size p.w w' := fun p => by
      have := rsame_c y.v y.v _ _ p.w (hv7.keep p.h) (hv7.keep p.h)
      rwa [sameV_self] at this
    have hx7' := hx7
    obtain ⟨q9, q0, q1, q2, q3, q4, q5, q6, q7, q8⟩ := hx7'
    have hy7' := hy7
    obtain ⟨r9, r0, r1, r2, r3, r4, r5, r6, r7, r8⟩ := hy7'
    obtain ⟨z6, z0, z1, z2, z3, z4, z5⟩ := hz7
    go_upto_region 9 with (first | ((with_reducible refine aw.mono ?_); rintro e w8 ⟨rfl, hb8⟩; (first | ((with_reducible obtain ⟨p, hw''⟩ := In.of2 p hb8); subst hw'') | (obtain ⟨p, hw''⟩ := In.of hb8; subst hw''))) | ((with_reducible refine (cs1 _).mono ?_); rintro e w8 ⟨rfl, hb8⟩; (first | ((with_reducible obtain ⟨p, hw''⟩ := In.of2 p hb8); subst hw'') | (obtain ⟨p, hw''⟩ := In.of hb8; subst hw''))) | ((with_reducible refine (cs2 _).mono ?_); rintro e w8 ⟨rfl, hb8⟩; (first | ((with_reducible obtain ⟨p, hw''⟩ := In.of2 p hb8); subst hw'') | (obtain ⟨p, hw''⟩ := In.of hb8; subst hw''))))
    obtain ⟨w8, hw8⟩ : ∃ w8, w8 = p.w := ⟨_, rfl⟩
    have b78 : Below w7.heap.size w7 w8 := hw8 ▸ p.h
    have B8 := B7.trans (b78.mono B7.size)
    have hx8 := hx7.keep b78
    have hy8 := hy7.keep b78
    have hT8 := hT7.keep b78
    have hN8 := hN7.keep b78
    rw [← hw8]
    clear hw8 b78 B7 hx7 hy7 hT7 hN7 hv7 hvx7 cs1 cs2 aw q9 q0 q1 q2 q3 q4 q5 q6 q7 q8 r9 r0 r1 r2 r3 r4 r5 r6 r7 r8 z6 z0 z1 z2 z3 z4 z5
    cases hon : (other == name)
    rotate_left
    · go_wp2_with fail
      go_ret
      exact ⟨rfl, B8⟩
    · have hne : ¬ other = name := by simpa using hon
      have hold := hold hne
      have cn1 := named_c k b n f s B len c P pl pc T tc q y.tags other w8 hT8 (by omega)
      have hTx : ∀ wx, TagsN wx T9 tg → Calls Try.prog 28 #[travV k b n f s B len c P pl pc T9 tg.length tc9 q, .string (st other)] wx (NamedEnds (namedV y.tags other) wx) := fun wx h => by
        have := named_c k b n f s B len c P pl pc T9 tc9 q tg other wx h hln
        rwa [hold] at this
      clear hold hnew
      generalize namedV y.tags other = R at *
      unfold NamedEnds at cn1 hTx
      have hy8' := hy8
      obtain ⟨r9, r0, r1, r2, r3, r4, r5, r6, r7, r8⟩ := hy8'
      go_upto_region 12 with ((with_reducible refine cn1.mono ?_); rintro e w9 ⟨k9, b9, n9, f9, s9, B9, len9, c9, rfl, hv9, hb9⟩)
      obtain ⟨w10, hw10⟩ : ∃ w10, w10 = w9.alloc (.cells #[.int .i64 k9, .bool b9, .int .i64 n9, .float .f64 f9, .string (st s9), .slice B9 len9 c9] 31) := ⟨_, rfl⟩
      have b910 : Below w9.heap.size w9 w10 := hw10 ▸ below_alloc _ _
      have b810 : Below w8.heap.size w8 w10 := hb9.trans (b910.mono hb9.size)
      have hz10 : Box w10 w9.heap.size k9 b9 n9 f9 s9 B9 len9 c9 := hw10 ▸ Box.new _ _ _ _ _ _ _ _ _ _
      have hx10 := hx8.keep b810
      have B10 := B8.trans (b810.mono B8.size)
      have hN10 := hN8.keep b810
      have hv10 := hv9.keep b910
      rw [← hw10]
      clear hw10 r9 r0 r1 r2 r3 r4 r5 r6 r7 r8 cn1 b910 b810 hb9 hv9 hx8 hy8 hN8 hT8 B8
      generalize w9.heap.size = G12 at *
      have cn2 := hTx w10 hN10
      clear hTx hN10
      have hx10' := hx10
      obtain ⟨q9, q0, q1, q2, q3, q4, q5, q6, q7, q8⟩ := hx10'
      go_upto_region 13 with ((with_reducible refine cn2.mono ?_); rintro e w11 ⟨k1, b1, n1, f1, s1, B1, len1, c1, rfl, hv11, hb11⟩)
      obtain ⟨w12, hw12⟩ : ∃ w12, w12 = w11.alloc (.cells #[.int .i64 k1, .bool b1, .int .i64 n1, .float .f64 f1, .string (st s1), .slice B1 len1 c1] 31) := ⟨_, rfl⟩
      have b1112 : Below w11.heap.size w11 w12 := hw12 ▸ below_alloc _ _
      have b1012 : Below w10.heap.size w10 w12 := hb11.trans (b1112.mono hb11.size)
      have hz12 : Box w12 w11.heap.size k1 b1 n1 f1 s1 B1 len1 c1 := hw12 ▸ Box.new _ _ _ _ _ _ _ _ _ _
      have hy12 := hz10.keep b1012
      have B12 := B10.trans (b1012.mono B10.size)
      have hva := hv10.keep b1012
      have hvb := hv11.keep b1112
      rw [← hw12]
      clear hw12 q9 q0 q1 q2 q3 q4 q5 q6 q7 q8 cn2 b1112 b1012 hb11 hv11 hv10 hx10 hz10 B10
      generalize w11.heap.size = G14 at *
      have cs : Calls Try.prog 26 #[valV k1 b1 n1 f1 s1 B1 len1 c1, valV k9 b9 n9 f9 s9 B9 len9 c9] w12 fun e w' => e = .returned (.bool true) ∧ Below w12.heap.size w12 w' := by
        have := rsame_c _ _ _ _ w12 hvb hva
        rwa [sameV_self] at this
      obtain ⟨z6, z0, z1, z2, z3, z4, z5⟩ := hz12
      obtain ⟨y6, y0, y1, y2, y3, y4, y5⟩ := hy12
      clear hva hvb
      go_wp2_with ((with_reducible refine cs.mono ?_); rintro e w13 ⟨rfl, hb13⟩)
      go_ret
      exact ⟨rfl, B12.trans (hb13.mono B12.size)⟩
end Go.Proofs.Ytfccplkfdhpdgaa
