
/-
  Traversers' names: trav.Name.
-/
import Derived.Test.YtfccplkfdhpdgaaTgC
import Derived.Test.YtfccplkfdhpdgaaRst
set_option linter.unusedSimpArgs false
set_option linter.unusedVariables false
namespace Go.Proofs.Ytfccplkfdhpdgaa
open Go.RowKit

theorem own_slice {w : World} {base : Nat} {e : TypeId} {size : Nat} {v : Value} {n : Nat} {xs : List Value} (h : w.ownsRow base e size v n xs) : ∃ A cap, v = .slice A n cap := by
  rcases h.2 with ⟨hv, hn⟩ | ⟨gb, cap, cur, hv, _⟩
  · exact ⟨none, 0, by rw [hv, hn]⟩
  · exact ⟨_, cap, hv⟩
theorem own_only {w w' : World} {base g : Nat} {e : TypeId} {size : Nat} {v : Value} {n : Nat} {xs : List Value} (h : w.ownsRow base e size v n xs) (hO : Only g w w') (hne : g < base) : w'.ownsRow base e size v n xs := by
  refine ⟨h.1, ?_⟩
  rcases h.2 with h | ⟨gb, cap, cur, hv, hbg, hc, hr⟩
  · exact .inl h
  · exact .inr ⟨gb, cap, cur, hv, hbg, (hO.block gb (by omega)).trans hc, hr⟩
abbrev zTrav : Array Value := #[.int .i64 0, .bool false, .int .i64 0, .float .f64 0, .string ⟨#[]⟩, .slice none 0 0, .slice none 0 0, .slice none 0 0, .int .i64 0]
theorem TagRow.snoc {w : World} {ys : List Tag} {xs : List Value} (h : TagRow w ys xs) {y : Tag} {k : Int} {b : Bool} {n : Int} {f : Nat} {s : List UInt8} {B : Option Addr} {len c : Nat} (hv : Has w (valV k b n f s B len c) y.2) : TagRow w (ys ++ [y]) (xs ++ tagC y.1 k b n f s B len c) := by
  refine ⟨by rw [List.length_append, List.length_append, h.1]; simp; omega, fun i z hi => ?_⟩
  by_cases hil : i < ys.length
  · rw [List.getElem?_append_left hil] at hi
    obtain ⟨k, b, n, f, s, B, len, c, h3, h4⟩ := h.2 i z hi
    refine ⟨k, b, n, f, s, B, len, c, h3, fun j u hu => ?_⟩
    have h5 := h4 j u hu
    rw [List.getElem?_append_left (List.getElem?_eq_some_iff.1 h5).1]
    exact h5
  · have e : i = ys.length := by have := (List.getElem?_eq_some_iff.1 hi).1; simp at this; omega
    subst e
    simp at hi
    subst hi
    refine ⟨k, b, n, f, s, B, len, c, hv, fun j u hu => ?_⟩
    rw [List.getElem?_append_right (by rw [h.1]; omega), h.1, show ys.length * 7 + j - ys.length * 7 = j by omega]
    exact hu
def NameEnds (k : Int) (b : Bool) (n : Int) (f : Nat) (s : List UInt8) (B : Option Addr) (len c : Nat) (P : Option Addr) (pl pc : Nat) (q : Int) (tags : List Tag) (w : World) (e : Ending) (w' : World) : Prop := ∃ T tc, e = .returned (travV k b n f s B len c P pl pc T tags.length tc q) ∧ TagsN w' T tags ∧ Below w.heap.size w w'
set_option maxRecDepth 8000 in
set_option maxHeartbeats 8000000 in
theorem name_c (k : Int) (b : Bool) (n : Int) (f : Nat) (s : List UInt8) (B : Option Addr) (len c : Nat) (P : Option Addr) (pl pc : Nat) (T : Option Addr) (tc : Nat) (q : Int) (tags : List Tag) (name : List UInt8) (v : Val) (w : World) (hv : Has w (valV k b n f s B len c) v) (hT : TagsN w T tags) (hl : tags.length ≤ 900) :
    Calls Try.prog 27 #[travV k b n f s B len c P pl pc T tags.length tc q, .string (st name)] w (NameEnds k b n f s B len c P pl pc q (keepT name tags ++ [(name, v)]) w) := by
  generalize hgoal : NameEnds k b n f s B len c P pl pc q (keepT name tags ++ [(name, v)]) w = GOAL
  have hgoal := Lib.hid hgoal
  go_enter Try.func27, Try.ntmps27
  go_upto_region 2 with fail
  obtain ⟨w1, hw1⟩ : ∃ w1, w1 = (((w.alloc (.cells #[.int .i64 k, .bool b, .int .i64 n, .float .f64 f, .string (st s), .slice B len c, .slice P pl pc, .slice T tags.length tc, .int .i64 q] 34)).alloc (.cells #[.string (st name)] 9)).alloc (.cells zTrav 34)).alloc (.cells #[.int .i64 k, .bool b, .int .i64 n, .float .f64 f, .string (st s), .slice B len c, .slice P pl pc, .slice T tags.length tc, .int .i64 q] 34) := ⟨_, rfl⟩
  have bk : Below w.heap.size w w1 := hw1 ▸ (((below_alloc w _).alloc (by simp) _).alloc (by simp <;> omega) _).alloc (by simp <;> omega) _
  have hsz : w1.heap.size = w.heap.size + 1 + 1 + 1 + 1 := by rw [hw1]; simp
  have h0 : w1.heap[w.heap.size]? = some (.cells #[.int .i64 k, .bool b, .int .i64 n, .float .f64 f, .string (st s), .slice B len c, .slice P pl pc, .slice T tags.length tc, .int .i64 q] 34) := by
    rw [hw1]
    exact alloc_past _ (alloc_past _ (alloc_past _ (alloc_here _ _)))
  have h1 : w1.heap[w.heap.size + 1]? = some (.cells #[.string (st name)] 9) := by
    rw [hw1]
    refine alloc_past _ (alloc_past _ ?_)
    have := alloc_here (w.alloc (.cells #[.int .i64 k, .bool b, .int .i64 n, .float .f64 f, .string (st s), .slice B len c, .slice P pl pc, .slice T tags.length tc, .int .i64 q] 34)) (.cells #[.string (st name)] 9)
    simpa using this
  have h2 : w1.heap[w.heap.size + 1 + 1]? = some (.cells zTrav 34) := by
    rw [hw1]
    refine alloc_past _ ?_
    have := alloc_here ((w.alloc (.cells #[.int .i64 k, .bool b, .int .i64 n, .float .f64 f, .string (st s), .slice B len c, .slice P pl pc, .slice T tags.length tc, .int .i64 q] 34)).alloc (.cells #[.string (st name)] 9)) (.cells zTrav 34)
    simpa using this
  have h3 : w1.heap[w.heap.size + 1 + 1 + 1]? = some (.cells #[.int .i64 k, .bool b, .int .i64 n, .float .f64 f, .string (st s), .slice B len c, .slice P pl pc, .slice T tags.length tc, .int .i64 q] 34) := by
    rw [hw1]
    have := alloc_here (((w.alloc (.cells #[.int .i64 k, .bool b, .int .i64 n, .float .f64 f, .string (st s), .slice B len c, .slice P pl pc, .slice T tags.length tc, .int .i64 q] 34)).alloc (.cells #[.string (st name)] 9)).alloc (.cells zTrav 34)) (.cells #[.int .i64 k, .bool b, .int .i64 n, .float .f64 f, .string (st s), .slice B len c, .slice P pl pc, .slice T tags.length tc, .int .i64 q] 34)
    simpa using this
  rw [← hw1]
  clear hw1
  generalize hb0 : w.heap.size = b0 at *
  have cc := clone_c tags T tc w w1 (by rw [hb0]; exact bk) hT (by omega)
  have x7 := cell_of h0 7
  simp at x7
  have hnb : w1.cell? ⟨b0 + 1, 0, none⟩ = some (.string (st name)) := cell_of h1 0
  have x6 : b0 < w1.heap.size := by omega
  have hbn : b0 + 1 < w1.heap.size := by omega
  have hb3l : b0 + 1 + 1 + 1 < w1.heap.size := by omega
  have hdel := fun (w2 : World) (hb2 : Below w1.heap.size w1 w2) v0 xs (ho : w2.ownsRow w1.heap.size 52 7 v0 tags.length xs) (hr : TagRow w tags xs) => delete_c (b0 + 1) w1.heap.size name tags v0 xs w w2 ((hb2.cell (p := ⟨b0 + 1, 0, none⟩) hbn).trans hnb) (by rw [hb0]; exact bk.trans (hb2.mono (by omega))) ho hr hb2.size hbn (by omega) (by omega)
  go_upto_region 3 with (first | ((with_reducible refine cc.mono ?_); rintro e w2 ⟨v0, xs, rfl, ho2, hr2, hb2⟩) | ((with_reducible refine (hdel _ hb2 v0 xs ho2 hr2).mono ?_); rintro e w3 ⟨v3, xs3, rfl, ho3, hr3, hb3⟩; obtain ⟨A3, cap3, hv3⟩ := own_slice ho3; subst hv3; have hb13 : Below w1.heap.size w1 w3 := hb2.trans hb3; have h33 := (hb13.block (b0 + 1 + 1 + 1) hb3l).trans h3; have g7 := cell_of h33 7; have z7 := frozen_of h33 7; have gl := (Array.getElem?_eq_some_iff.1 h33).1; simp at g7))
  obtain ⟨w4, hw4⟩ : ∃ w4, w4 = w3.setCell ⟨b0 + 1 + 1 + 1, 7, none⟩ (.slice A3 (keepT name tags).length cap3) := ⟨_, rfl⟩
  have hO : Only (b0 + 1 + 1 + 1) w3 w4 := hw4 ▸ (Only.refl _ w3).set 7 _
  have h43 : w4.heap[b0 + 1 + 1 + 1]? = some (.cells #[.int .i64 k, .bool b, .int .i64 n, .float .f64 f, .string (st s), .slice B len c, .slice P pl pc, .slice A3 (keepT name tags).length cap3, .int .i64 q] 34) := by
    rw [hw4]
    have := set_heap1 (p := 7) (.slice A3 (keepT name tags).length cap3) h33
    simpa using this
  have ho4 := own_only ho3 hO (by omega)
  have h40 := (hO.block b0 (by omega)).trans ((hb13.block b0 x6).trans h0)
  have h41 := (hO.block (b0 + 1) (by omega)).trans ((hb13.block (b0 + 1) hbn).trans h1)
  have h42 := (hO.block (b0 + 1 + 1) (by omega)).trans ((hb13.block (b0 + 1 + 1) (by omega)).trans h2)
  have hs4 : w4.heap.size = w3.heap.size := hO.size
  have hb4 : Below b0 w w4 := (bk.trans (hb13.mono (by omega))).trans (hO.below (by omega))
  have hs41 : w1.heap.size ≤ w4.heap.size := by rw [hs4]; exact hb13.size
  rw [← hw4]
  clear hw4 hO h33 g7 z7 gl ho3 hb13 hdel cc hb2 ho2 hr2 hb3 h0 h1 h2 h3 x7 hnb hs4
  obtain ⟨i0, hi0, hz0, hz1, hz2⟩ := info_parts tag_info
  have hkl : (keepT name tags).length ≤ 900 := Nat.le_trans (List.length_filter_le _ _) hl
  generalize hK : keepT name tags = K at *
  have x0 := cell_of h40 0
  have x1 := cell_of h40 1
  have x2 := cell_of h40 2
  have x3 := cell_of h40 3
  have x4 := cell_of h40 4
  have x5 := cell_of h40 5
  have yn : w4.cell? ⟨b0 + 1, 0, none⟩ = some (.string (st name)) := cell_of h41 0
  have g7 := cell_of h43 7
  simp at x0 x1 x2 x3 x4 x5 g7
  have l0 : b0 < w4.heap.size := by omega
  have l1 : b0 + 1 < w4.heap.size := by omega
  have l3 : b0 + 1 + 1 + 1 < w4.heap.size := by omega
  go_wp2_with (at_builtin; refine wpList_append_own _ rfl _ _ 32 rfl w1.heap.size 52 i0 zTag 7 88 Try.underlying32 hi0 hz0 hz1 hz2 rfl (by decide) _ _ _ rfl (ho4.alloc _) ⟨w4.heap.size, 0, none⟩ 1 1 (tagC name k b n f s B len c) rfl rfl ?e1 ?e2 ?e3 ?e4 ?e5 ?_)
  case e1 =>
    intro j u hj
    match j, hj with
    | 0, hj => simp at hj; subst hj; simp [Addr.add, go_sem]
    | 1, hj => simp at hj; subst hj; simp [Addr.add, go_sem]
    | 2, hj => simp at hj; subst hj; simp [Addr.add, go_sem]
    | 3, hj => simp at hj; subst hj; simp [Addr.add, go_sem]
    | 4, hj => simp at hj; subst hj; simp [Addr.add, go_sem]
    | 5, hj => simp at hj; subst hj; simp [Addr.add, go_sem]
    | 6, hj => simp at hj; subst hj; simp [Addr.add, go_sem]
  case e2 => intro u hu; simp only [List.mem_cons, List.not_mem_nil, or_false] at hu; rcases hu with rfl | rfl | rfl | rfl | rfl | rfl | rfl <;> rfl
  case e3 => unfold maxLen; omega
  case e4 => omega
  case e5 => simp; omega
  intro v6 w6 hown6 hgrow _
  obtain ⟨A6, cap6, hv6⟩ := own_slice hown6
  subst hv6
  have hob : ∀ d, d < w1.heap.size → some d ≠ (Value.slice A3 K.length cap3).ownBlock := fun d hd e => by
    have := (ho4.lt d e.symm).1
    omega
  have b45 := below_alloc w4 (.cells (tagC name k b n f s B len c).toArray 52)
  have h62 : w6.heap[b0 + 1 + 1]? = some (.cells zTrav 34) := (hgrow.block (b0 + 1 + 1) (by simp; omega) (hob _ (by omega))).trans ((b45.block (b0 + 1 + 1) (by omega)).trans h42)
  have h63 := (hgrow.block (b0 + 1 + 1 + 1) (by simp; omega) (hob _ (by omega))).trans ((b45.block (b0 + 1 + 1 + 1) (by omega)).trans h43)
  have hb6 : Below b0 w w6 := ((hb4.trans (b45.mono (by omega))).grown hgrow (by simp; omega) fun d hd => by have := (ho4.lt d hd).1; omega)
  have hs6 : w1.heap.size ≤ w6.heap.size := by have := hgrow.size; simp at this; omega
  clear hgrow b45 x0 x1 x2 x3 x4 x5 yn g7 l0 l1 l3 h40 h41 h42 h43 hob
  have g7 := cell_of h63 7
  have z7 := frozen_of h63 7
  have gl := (Array.getElem?_eq_some_iff.1 h63).1
  simp at g7
  go_upto_region 4 with fail
  obtain ⟨w7, hw7⟩ : ∃ w7, w7 = w6.setCell ⟨b0 + 1 + 1 + 1, 7, none⟩ (.slice A6 (K.length + 1) cap6) := ⟨_, rfl⟩
  have hO : Only (b0 + 1 + 1 + 1) w6 w7 := hw7 ▸ (Only.refl _ w6).set 7 _
  have h73 : w7.heap[b0 + 1 + 1 + 1]? = some (.cells #[.int .i64 k, .bool b, .int .i64 n, .float .f64 f, .string (st s), .slice B len c, .slice P pl pc, .slice A6 (K.length + 1) cap6, .int .i64 q] 34) := by
    rw [hw7]
    have := set_heap1 (p := 7) (.slice A6 (K.length + 1) cap6) h63
    simpa using this
  have ho7 := own_only hown6 hO (by omega)
  have h72 := (hO.block (b0 + 1 + 1) (by omega)).trans h62
  have hb7 : Below b0 w w7 := hb6.trans (hO.below (by omega))
  rw [← hw7]
  clear hw7 hO h62 h63 hb6 hown6 g7 z7 gl hs6
  have l3 := (Array.getElem?_eq_some_iff.1 h73).1
  have l2 := (Array.getElem?_eq_some_iff.1 h72).1
  have x0 := cell_of h73 0
  have x1 := cell_of h73 1
  have x2 := cell_of h73 2
  have x3 := cell_of h73 3
  have x4 := cell_of h73 4
  have x5 := cell_of h73 5
  have x6 := cell_of h73 6
  have x7 := cell_of h73 7
  have x8 := cell_of h73 8
  have y0 := cell_of h72 0
  have y1 := cell_of h72 1
  have y2 := cell_of h72 2
  have y3 := cell_of h72 3
  have y4 := cell_of h72 4
  have y5 := cell_of h72 5
  have y6 := cell_of h72 6
  have y7 := cell_of h72 7
  have y8 := cell_of h72 8
  have z0 := frozen_of h72 0
  have z1 := frozen_of h72 1
  have z2 := frozen_of h72 2
  have z3 := frozen_of h72 3
  have z4 := frozen_of h72 4
  have z5 := frozen_of h72 5
  have z6 := frozen_of h72 6
  have z7 := frozen_of h72 7
  have z8 := frozen_of h72 8
  simp at x0 x1 x2 x3 x4 x5 x6 x7 x8 y0 y1 y2 y3 y4 y5 y6 y7 y8
  go_upto_block 9 with fail
  obtain ⟨wf, hwf⟩ : ∃ wf, wf = (((((((((w7.setCell ⟨b0 + 1 + 1, 0, none⟩ (.int .i64 k)).setCell ⟨b0 + 1 + 1, 1, none⟩ (.bool b)).setCell ⟨b0 + 1 + 1, 2, none⟩ (.int .i64 n)).setCell ⟨b0 + 1 + 1, 3, none⟩ (.float .f64 f)).setCell ⟨b0 + 1 + 1, 4, none⟩ (.string (st s))).setCell ⟨b0 + 1 + 1, 5, none⟩ (.slice B len c)).setCell ⟨b0 + 1 + 1, 6, none⟩ (.slice P pl pc)).setCell ⟨b0 + 1 + 1, 7, none⟩ (.slice A6 (K.length + 1) cap6)).setCell ⟨b0 + 1 + 1, 8, none⟩ (.int .i64 q)) := ⟨_, rfl⟩
  have hf2 := (set_heap1 (p := 8) (.int .i64 q) (set_heap1 (p := 7) (.slice A6 (K.length + 1) cap6) (set_heap1 (p := 6) (.slice P pl pc) (set_heap1 (p := 5) (.slice B len c) (set_heap1 (p := 4) (.string (st s)) (set_heap1 (p := 3) (.float .f64 f) (set_heap1 (p := 2) (.int .i64 n) (set_heap1 (p := 1) (.bool b) (set_heap1 (p := 0) (.int .i64 k) h72)))))))))
  have hO : Only (b0 + 1 + 1) w7 wf := hwf ▸ ((((((((((Only.refl (b0 + 1 + 1) w7).set 0 _).set 1 _).set 2 _).set 3 _).set 4 _).set 5 _).set 6 _).set 7 _).set 8 _)
  rw [← hwf] at hf2 ⊢
  have hbf : Below b0 w wf := hb7.trans (hO.below (by omega))
  have hof := own_only ho7 hO (by omega)
  clear hwf x0 x1 x2 x3 x4 x5 x6 x7 x8 y0 y1 y2 y3 y4 y5 y6 y7 y8 z0 z1 z2 z3 z4 z5 z6 z7 z8 h72 h73 ho7
  have u0 := cell_of hf2 0
  have u1 := cell_of hf2 1
  have u2 := cell_of hf2 2
  have u3 := cell_of hf2 3
  have u4 := cell_of hf2 4
  have u5 := cell_of hf2 5
  have u6 := cell_of hf2 6
  have u7 := cell_of hf2 7
  have u8 := cell_of hf2 8
  simp at u0 u1 u2 u3 u4 u5 u6 u7 u8
  obtain ⟨gA, hgA⟩ : ∃ gA, A6 = some ⟨gA, 0, none⟩ := by
    rcases hof.2 with ⟨hn, _⟩ | ⟨gA, cA, _, hn, _⟩
    · simp at hn
    · simp only [Value.slice.injEq] at hn
      exact ⟨gA, hn.1⟩
  have hrow : TagRow w (K ++ [(name, v)]) (xs3 ++ tagC name k b n f s B len c) := hr3.snoc hv
  have hTf : TagsN wf A6 (K ++ [(name, v)]) := by
    subst hgA
    exact TagsN.ofRow hof hrow (by simp) (by rw [hb0]; exact hbf)
  refine bodyPost_ret (v := travV k b n f s B len c P pl pc A6 (K.length + 1) cap6 q) (by simp only [results, Try.results27]; go_simp) rfl ?_
  rw [← hgoal.out]
  exact ⟨A6, cap6, by simp, hTf, by rw [hb0]; exact hbf⟩
end Go.Proofs.Ytfccplkfdhpdgaa
