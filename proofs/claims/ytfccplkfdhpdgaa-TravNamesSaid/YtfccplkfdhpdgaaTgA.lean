
/-
  Traversers' names: trav.Named.
-/
import Derived.Test.YtfccplkfdhpdgaaTrvC
import Derived.Test.YtfccplkfdhpdgaaRel
set_option linter.unusedSimpArgs false
set_option linter.unusedVariables false
namespace Go.Proofs.Ytfccplkfdhpdgaa
open Go.RowKit

abbrev Tag := List UInt8 × Val
/-- names and their values at their places -/
def TagsN (w : World) (T : Option Addr) (tags : List Tag) : Prop := ∀ (i : Nat) (x : Tag), tags[i]? = some x → ∃ ad k b n f s B len c, T = some ad ∧ Has w (valV k b n f s B len c) x.2 ∧ TagAt w (ad.add (i * 7)) x.1 k b n f s B len c
theorem TagsN.keep {w w' : World} {T : Option Addr} {tags : List Tag} (h : TagsN w T tags) (hb : Below w.heap.size w w') : TagsN w' T tags := fun i x hx => by
  obtain ⟨ad, k, b, n, f, s, B, len, c, h1, h2, h3⟩ := h i x hx
  exact ⟨ad, k, b, n, f, s, B, len, c, h1, h2.keep hb, h3.keep hb⟩
theorem TagsN.of {w : World} {T : Option Addr} {tags : List Tag} (h : Tags w T tags) : TagsN w T tags := fun i x hx => by
  obtain ⟨ad, k, b, n, f, s, B, len, c, h1, _, h2, h3⟩ := h i x hx
  exact ⟨ad, k, b, n, f, s, B, len, c, h1, h2, h3⟩
def namedV (tags : List Tag) (name : List UInt8) : Option Val := (tags.find? fun x => x.1 == name).map (·.2)
theorem zero_has (w : World) : Has w (valV 0 false 0 0 [] none 0 0) (.mk 0 false 0 0 [] []) :=
  Has.mk (l := []) (A := none) (cap := 0) (fun _ => .bool false) ⟨by omega, by omega⟩ ⟨by omega, by omega⟩ ⟨by omega⟩ (by simp) (by simp) (by simp) (by simp [maxLen]) (fun i x h => by cases h) (fun i h => absurd h (Nat.not_lt_zero _))
def NamedEnds (R : Option Val) (w : World) (e : Ending) (w' : World) : Prop := ∃ k b n f s B len c, e = .returned (.tuple #[valV k b n f s B len c, .bool R.isSome]) ∧ Has w' (valV k b n f s B len c) (R.getD (.mk 0 false 0 0 [] [])) ∧ Below w.heap.size w w'
theorem find_none_snoc {tags : List Tag} {name : List UInt8} {i : Nat} {x : Tag} (h : (tags.take i).find? (fun x => x.1 == name) = none) (hx : tags[i]? = some x) (hn : (x.1 == name) = false) : (tags.take (i + 1)).find? (fun x => x.1 == name) = none := by
  obtain ⟨hi, rfl⟩ := List.getElem?_eq_some_iff.1 hx
  rw [List.take_succ_eq_append_getElem hi, List.find?_append, h]
  simp [hn]
theorem find_some_at {tags : List Tag} {name : List UInt8} {i : Nat} {x : Tag} (h : (tags.take i).find? (fun x => x.1 == name) = none) (hx : tags[i]? = some x) (hn : (x.1 == name) = true) : namedV tags name = some x.2 := by
  obtain ⟨hi, rfl⟩ := List.getElem?_eq_some_iff.1 hx
  have e : tags = tags.take i ++ (tags[i] :: tags.drop (i + 1)) := by rw [List.getElem_cons_drop, List.take_append_drop]
  have e2 := congrArg (List.find? fun x => x.1 == name) e
  rw [List.find?_append, h] at e2
  have e3 : (tags[i] :: tags.drop (i + 1)).find? (fun x => x.1 == name) = some tags[i] := List.find?_cons_of_pos hn
  rw [e3] at e2
  unfold namedV
  rw [e2]
  rfl
theorem set_heap1 {w : World} {g p : Nat} {cur : Array Value} {T : TypeId} {fz : Nat × Nat} (u : Value) (h : w.heap[g]? = some (.cells cur T fz)) : (w.setCell ⟨g, p, none⟩ u).heap[g]? = some (.cells (cur.setIfInBounds p u) T fz) := by
  obtain ⟨hb, h⟩ := Array.getElem?_eq_some_iff.1 h
  simp [World.setCell, hb, h, Array.modify, Array.modifyM]
set_option maxRecDepth 8000 in
set_option maxHeartbeats 4000000 in
theorem named_c (k : Int) (b : Bool) (n : Int) (f : Nat) (s : List UInt8) (B : Option Addr) (len c : Nat) (P : Option Addr) (pl pc : Nat) (T : Option Addr) (tc : Nat) (q : Int) (tags : List Tag) (name : List UInt8) (w : World) (hT : TagsN w T tags) (hl : tags.length ≤ 100000) :
    Calls Try.prog 28 #[travV k b n f s B len c P pl pc T tags.length tc q, .string (st name)] w (NamedEnds (namedV tags name) w) := by
  obtain ⟨R, hR⟩ : ∃ R, namedV tags name = R := ⟨_, rfl⟩
  rw [hR]
  have hR := Lib.hid hR
  go_enter Try.func28, Try.ntmps28
  go_upto_region 1 with fail
  obtain ⟨w1, hw1⟩ : ∃ w1, w1 = (w.alloc (.cells #[.int .i64 k, .bool b, .int .i64 n, .float .f64 f, .string (st s), .slice B len c, .slice P pl pc, .slice T tags.length tc, .int .i64 q] 34)).alloc (.cells #[.int .i64 0, .bool false, .int .i64 0, .float .f64 0, .string ⟨#[]⟩, .slice none 0 0] 31) := ⟨_, rfl⟩
  have bk : Below w.heap.size w w1 := hw1 ▸ (below_alloc w _).alloc (by simp) _
  have x6 : w.heap.size < w1.heap.size := by rw [hw1]; simp; omega
  have x7 : w1.cell? ⟨w.heap.size, 7, none⟩ = some (.slice T tags.length tc) := by rw [hw1]; simp [go_sem]
  have hb4 : w1.heap[w.heap.size + 1]? = some (.cells #[.int .i64 0, .bool false, .int .i64 0, .float .f64 0, .string (st []), .slice none 0 0] 31) := by
    rw [hw1]
    have := alloc_here (w.alloc (.cells #[.int .i64 k, .bool b, .int .i64 n, .float .f64 f, .string (st s), .slice B len c, .slice P pl pc, .slice T tags.length tc, .int .i64 q] 34)) (.cells #[.int .i64 0, .bool false, .int .i64 0, .float .f64 0, .string ⟨#[]⟩, .slice none 0 0] 31)
    rwa [show (w.alloc (.cells #[.int .i64 k, .bool b, .int .i64 n, .float .f64 f, .string (st s), .slice B len c, .slice P pl pc, .slice T tags.length tc, .int .i64 q] 34)).heap.size = w.heap.size + 1 by simp] at this
  rw [← hw1]
  clear hw1
  generalize hG : w.heap.size + 1 = G at *
  have hGw : w.heap.size ≤ G := by omega
  clear hG
  go_wp2_with fail
  go_loopw [11] (fun a11 wr => ∃ i : Nat, a11 = .int .i64 i ∧ i ≤ tags.length ∧ Hid ((tags.take i).find? (fun x => x.1 == name) = none) ∧ Below w1.heap.size w1 wr) (fun a _ => tags.length - (intOf a).toNat)
  case atStart => exact ⟨0, rfl, Nat.zero_le _, rfl, Below.refl _ _⟩
  case round =>
    obtain ⟨i, rfl, hi, hno, hbr⟩ := hrel
    have hb4r := (hbr.block G (Array.getElem?_eq_some_iff.1 hb4).1).trans hb4
    have g0 := cell_of hb4r 0
    have g1 := cell_of hb4r 1
    have g2 := cell_of hb4r 2
    have g3 := cell_of hb4r 3
    have g4 := cell_of hb4r 4
    have g5 := cell_of hb4r 5
    have z0 := frozen_of hb4r 0
    have z1 := frozen_of hb4r 1
    have z2 := frozen_of hb4r 2
    have z3 := frozen_of hb4r 3
    have z4 := frozen_of hb4r 4
    have z5 := frozen_of hb4r 5
    have g6 := (Array.getElem?_eq_some_iff.1 hb4r).1
    simp at g0 g1 g2 g3 g4 g5
    by_cases hil : i < tags.length
    · have hil' : (i : Int) < tags.length := by omega
      have hget : tags[i]? = some tags[i] := by simp
      obtain ⟨ad, k', b', n', f', s', B', len', c', rfl, hv, hat⟩ := hT i tags[i] hget
      obtain ⟨q7, q0, q1, q2, q3, q4, q5, q6⟩ := hat.keep (bk.trans (hbr.mono bk.size))
      cases hn : (tags[i].1 == name)
      · have hst := Lib.hid (find_none_snoc hno.out hget hn)
        have hne : ¬ tags[i].1 = name := by simpa using hn
        generalize tags[i] = x at *
        clear hT hget hv hat hno g0 g1 g2 g3 g4 g5 z0 z1 z2 z3 z4 z5 hb4 hb4r
        go_wp2_with fail
        exact ⟨⟨i + 1, rfl, hil, hst.out, hbr.alloc hbr.size _⟩, by simp [intOf]; omega⟩
      · have hN := find_some_at hno.out hget hn
        have heq : tags[i].1 = name := by simpa using hn
        have hRv := Lib.hid (hR.out.symm.trans hN)
        generalize tags[i] = x at *
        obtain ⟨nm, v⟩ := x
        dsimp only at heq hv hRv
        subst heq
        clear hR
        have hlt : ¬ G = wr.heap.size := by omega
        clear hT hget hat hno hN hn
        go_upto_region 5 with fail
        obtain ⟨wa, hwa⟩ : ∃ wa, wa = wr.alloc (.cells #[.string (st nm), .int .i64 k', .bool b', .int .i64 n', .float .f64 f', .string (st s'), .slice B' len' c'] 52) := ⟨_, rfl⟩
        have bra : Below wr.heap.size wr wa := hwa ▸ below_alloc wr _
        have hba := (hbr.trans (bra.mono hbr.size))
        have hN1 : wa.heap[wr.heap.size]? = some (.cells #[.string (st nm), .int .i64 k', .bool b', .int .i64 n', .float .f64 f', .string (st s'), .slice B' len' c'] 52) := hwa ▸ alloc_here _ _
        have hG1 := (bra.block G g6).trans hb4r
        rw [← hwa]
        clear hwa bra g0 g1 g2 g3 g4 g5 z0 z1 z2 z3 z4 z5 q0 q1 q2 q3 q4 q5 q6 q7 hb4 hb4r hR
        generalize wr.heap.size = N at *
        have y1 := cell_of hN1 1
        have y2 := cell_of hN1 2
        have y3 := cell_of hN1 3
        have y4 := cell_of hN1 4
        have y5 := cell_of hN1 5
        have y6 := cell_of hN1 6
        have yl := (Array.getElem?_eq_some_iff.1 hN1).1
        have gl := (Array.getElem?_eq_some_iff.1 hG1).1
        have g0 := cell_of hG1 0
        have g1 := cell_of hG1 1
        have g2 := cell_of hG1 2
        have g3 := cell_of hG1 3
        have g4 := cell_of hG1 4
        have g5 := cell_of hG1 5
        have z0 := frozen_of hG1 0
        have z1 := frozen_of hG1 1
        have z2 := frozen_of hG1 2
        have z3 := frozen_of hG1 3
        have z4 := frozen_of hG1 4
        have z5 := frozen_of hG1 5
        simp at y1 y2 y3 y4 y5 y6 g0 g1 g2 g3 g4 g5
        go_upto_block 1 with fail
        obtain ⟨wf, hwf⟩ : ∃ wf, wf = ((((((wa.setCell ⟨G, 0, none⟩ (.int .i64 k')).setCell ⟨G, 1, none⟩ (.bool b')).setCell ⟨G, 2, none⟩ (.int .i64 n')).setCell ⟨G, 3, none⟩ (.float .f64 f')).setCell ⟨G, 4, none⟩ (.string (st s'))).setCell ⟨G, 5, none⟩ (.slice B' len' c')) := ⟨_, rfl⟩
        have hG2 := set_heap1 (p := 5) (.slice B' len' c') (set_heap1 (p := 4) (.string (st s')) (set_heap1 (p := 3) (.float .f64 f') (set_heap1 (p := 2) (.int .i64 n') (set_heap1 (p := 1) (.bool b') (set_heap1 (p := 0) (.int .i64 k') hG1)))))
        rw [← hwf] at hG2 ⊢
        have hbf : Below w.heap.size w wf := by
          rw [hwf]
          exact ((((((bk.trans (hba.mono bk.size)).setCell (p := ⟨G, 0, none⟩) hGw _).setCell (p := ⟨G, 1, none⟩) hGw _).setCell (p := ⟨G, 2, none⟩) hGw _).setCell (p := ⟨G, 3, none⟩) hGw _).setCell (p := ⟨G, 4, none⟩) hGw _).setCell (p := ⟨G, 5, none⟩) hGw _
        clear hwf y1 y2 y3 y4 y5 y6 g0 g1 g2 g3 g4 g5 z0 z1 z2 z3 z4 z5 hG1 hN1
        have u0 := cell_of hG2 0
        have u1 := cell_of hG2 1
        have u2 := cell_of hG2 2
        have u3 := cell_of hG2 3
        have u4 := cell_of hG2 4
        have u5 := cell_of hG2 5
        simp at u0 u1 u2 u3 u4 u5
        have hvf := hv.keep hbf
        exact bodyPost_ret (v := .tuple #[valV k' b' n' f' s' B' len' c', .bool true]) (by simp only [results, Try.results28]; go_simp) rfl (by unfold NamedEnds; exact ⟨k', b', n', f', s', B', len', c', by rw [hRv.out]; rfl, by rw [hRv.out]; exact hvf, hbf⟩)
    · have hil' : ¬ (i : Int) < tags.length := by omega
      have hno2 := hno.out
      rw [List.take_of_length_le (by omega)] at hno2
      have hN : namedV tags name = none := by unfold namedV; rw [hno2]; rfl
      have hRv := Lib.hid (hR.out.symm.trans hN)
      clear hno hno2 hN hT hR
      go_upto_block 1 with fail
      obtain ⟨wf, hwf⟩ : ∃ wf, wf = ((((((wr.setCell ⟨G, 0, none⟩ (.int .i64 0)).setCell ⟨G, 1, none⟩ (.bool false)).setCell ⟨G, 2, none⟩ (.int .i64 0)).setCell ⟨G, 3, none⟩ (.float .f64 0)).setCell ⟨G, 4, none⟩ (.string ⟨#[]⟩)).setCell ⟨G, 5, none⟩ (.slice none 0 0)) := ⟨_, rfl⟩
      have hG2 := set_heap1 (p := 5) (.slice none 0 0) (set_heap1 (p := 4) (.string ⟨#[]⟩) (set_heap1 (p := 3) (.float .f64 0) (set_heap1 (p := 2) (.int .i64 0) (set_heap1 (p := 1) (.bool false) (set_heap1 (p := 0) (.int .i64 0) hb4r)))))
      rw [← hwf] at hG2 ⊢
      have hbf : Below w.heap.size w wf := by
        rw [hwf]
        exact ((((((bk.trans (hbr.mono bk.size)).setCell (p := ⟨G, 0, none⟩) hGw _).setCell (p := ⟨G, 1, none⟩) hGw _).setCell (p := ⟨G, 2, none⟩) hGw _).setCell (p := ⟨G, 3, none⟩) hGw _).setCell (p := ⟨G, 4, none⟩) hGw _).setCell (p := ⟨G, 5, none⟩) hGw _
      clear hwf g0 g1 g2 g3 g4 g5 z0 z1 z2 z3 z4 z5 hb4r
      have u0 := cell_of hG2 0
      have u1 := cell_of hG2 1
      have u2 := cell_of hG2 2
      have u3 := cell_of hG2 3
      have u4 := cell_of hG2 4
      have u5 := cell_of hG2 5
      simp at u0 u1 u2 u3 u4 u5
      exact bodyPost_ret (v := .tuple #[valV 0 false 0 0 [] none 0 0, .bool false]) (by simp only [results, Try.results28]; go_simp) rfl (by unfold NamedEnds; exact ⟨0, false, 0, 0, [], none, 0, 0, by rw [hRv.out]; rfl, by rw [hRv.out]; exact zero_has wf, hbf⟩)
end Go.Proofs.Ytfccplkfdhpdgaa
