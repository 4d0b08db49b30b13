
/-
  Traversers' names: slices.DeleteFunc over names and values.
-/
import Derived.Test.YtfccplkfdhpdgaaTgB
import Derived.Test.YtfccplkfdhpdgaaTgD
set_option linter.unusedSimpArgs false
set_option linter.unusedVariables false
namespace Go.Proofs.Ytfccplkfdhpdgaa
open Go.RowKit

/-- the cells with a name and its value in the i-th place -/
def put7 (xs : List Value) (i : Nat) (x : List UInt8) (k : Int) (b : Bool) (n : Int) (f : Nat) (s : List UInt8) (B : Option Addr) (len c : Nat) : List Value :=
  ((((((xs.set (i * 7) (.string (st x))).set (i * 7 + 1) (.int .i64 k)).set (i * 7 + 2) (.bool b)).set (i * 7 + 3) (.int .i64 n)).set (i * 7 + 4) (.float .f64 f)).set (i * 7 + 5) (.string (st s))).set (i * 7 + 6) (.slice B len c)
theorem TagRow.put {w : World} {ys : List Tag} {xs : List Value} (h : TagRow w ys xs) {i : Nat} (hi : i < ys.length) {y : Tag} {k : Int} {b : Bool} {n : Int} {f : Nat} {s : List UInt8} {B : Option Addr} {len c : Nat} (hy : Has w (valV k b n f s B len c) y.2) :
    TagRow w (ys.set i y) (put7 xs i y.1 k b n f s B len c) := by
  have hlen := h.1
  refine ⟨by unfold put7; simp only [List.length_set]; exact h.1, fun t z ht => ?_⟩
  by_cases e : t = i
  · subst e
    rw [List.getElem?_set_self hi] at ht
    cases ht
    refine ⟨k, b, n, f, s, B, len, c, hy, fun j u hu => ?_⟩
    unfold put7
    match j, hu with
    | 0, hu => simp at hu; subst hu; simp [List.getElem?_set]; omega
    | 1, hu => simp at hu; subst hu; simp [List.getElem?_set]; omega
    | 2, hu => simp at hu; subst hu; simp [List.getElem?_set]; omega
    | 3, hu => simp at hu; subst hu; simp [List.getElem?_set]; omega
    | 4, hu => simp at hu; subst hu; simp [List.getElem?_set]; omega
    | 5, hu => simp at hu; subst hu; simp [List.getElem?_set]; omega
    | 6, hu => simp at hu; subst hu; simp [List.getElem?_set]; omega
  · rw [List.getElem?_set_ne (Ne.symm e)] at ht
    obtain ⟨k', b', n', f', s', B', len', c', h1, h2⟩ := h.2 t z ht
    refine ⟨k', b', n', f', s', B', len', c', h1, fun j u hu => ?_⟩
    have hj : j < 7 := (List.getElem?_eq_some_iff.1 hu).1
    have h3 := h2 j u hu
    unfold put7
    rw [List.getElem?_set_ne (by omega), List.getElem?_set_ne (by omega), List.getElem?_set_ne (by omega), List.getElem?_set_ne (by omega), List.getElem?_set_ne (by omega), List.getElem?_set_ne (by omega), List.getElem?_set_ne (by omega)]
    exact h3
theorem TagRow.take {w : World} {ys : List Tag} {xs : List Value} (h : TagRow w ys xs) (m : Nat) (hm : m ≤ ys.length) : TagRow w (ys.take m) (xs.take (m * 7)) := by
  refine ⟨by rw [List.length_take, List.length_take, h.1]; omega, fun t z ht => ?_⟩
  rw [List.getElem?_take] at ht
  split at ht
  · rename_i htm
    obtain ⟨k', b', n', f', s', B', len', c', h1, h2⟩ := h.2 t z ht
    refine ⟨k', b', n', f', s', B', len', c', h1, fun j u hu => ?_⟩
    have hj : j < 7 := (List.getElem?_eq_some_iff.1 hu).1
    rw [List.getElem?_take_of_lt (by omega)]
    exact h2 j u hu
  · cases ht
/-- names and values in an own row -/
theorem TagsN.ofRow {w0 w : World} {base g n cap : Nat} {ys : List Tag} {xs : List Value} (h : w.ownsRow base 52 7 (.slice (some ⟨g, 0, none⟩) n cap) n xs) (hr : TagRow w0 ys xs) (hn : ys.length = n) (hb : Below w0.heap.size w0 w) : TagsN w (some ⟨g, 0, none⟩) ys := fun i y hy => by
  have hil := (List.getElem?_eq_some_iff.1 hy).1
  obtain ⟨k, b, m, f, s, B, len, c, h1, h2⟩ := hr.2 i y hy
  refine ⟨_, k, b, m, f, s, B, len, c, rfl, h1.keep hb, ?_⟩
  have e : (⟨g, 0, none⟩ : Addr).add (i * 7) = ⟨g, i * 7, none⟩ := by simp [Addr.add]; intro h; exact h.symm
  rw [e]
  have hc : ∀ j u, (tagC y.1 k b m f s B len c)[j]? = some u → w.cell? ⟨g, i * 7 + j, none⟩ = some u := fun j u hu => by
    have hj : j < 7 := (List.getElem?_eq_some_iff.1 hu).1
    rw [h.cellAt _ (by omega)]
    exact h2 j u hu
  have hlt := (h.lt g rfl).2
  exact ⟨hlt, hc 0 _ rfl, hc 1 _ rfl, hc 2 _ rfl, hc 3 _ rfl, hc 4 _ rfl, hc 5 _ rfl, hc 6 _ rfl⟩
/-- those of another name -/
def keepT (name : List UInt8) (l : List Tag) : List Tag := l.filter fun y => !(y.1 == name)
theorem keepT_take {name : List UInt8} {l : List Tag} {j : Nat} {y : Tag} (h : l[j]? = some y) : keepT name (l.take (j + 1)) = keepT name (l.take j) ++ (if y.1 == name then [] else [y]) := by
  obtain ⟨hj, rfl⟩ := List.getElem?_eq_some_iff.1 h
  unfold keepT
  rw [List.take_succ_eq_append_getElem hj, List.filter_append]
  cases hn : (l[j].1 == name) <;> simp [hn]
theorem keepT_all {name : List UInt8} {l : List Tag} (h : ∀ (t : Nat) y, l[t]? = some y → (y.1 == name) = false) : keepT name l = l := by
  unfold keepT
  rw [List.filter_eq_self]
  intro y hy
  obtain ⟨t, ht, rfl⟩ := List.mem_iff_getElem.1 hy
  rw [h t _ (by simp)]
  rfl
/-- the row between two rounds -/
structure Delt (w0 w : World) (base g n cap : Nat) (ys : List Tag) (name : List UInt8) (i j : Nat) : Prop where
  row : ∃ zs xs, w.ownsRow base 52 7 (.slice (some ⟨g, 0, none⟩) n cap) n xs ∧ TagRow w0 zs xs ∧ zs.length = n ∧ zs.take i = keepT name (ys.take j) ∧ zs.drop j = ys.drop j
  lt : i < j
theorem own_frozen {w : World} {base g n cap size : Nat} {T : TypeId} {xs : List Value} (h : w.ownsRow base T size (.slice (some ⟨g, 0, none⟩) n cap) n xs) (p : Nat) : w.frozen? ⟨g, p, none⟩ = false := by
  rcases h.2 with ⟨hv, _⟩ | ⟨g', cap', cur, hv, hb, hc, hn, hm, hs, ht⟩
  · simp at hv
  · simp only [Value.slice.injEq, Option.some.injEq, Addr.mk.injEq, and_true, true_and] at hv
    obtain ⟨rfl, rfl⟩ := hv
    exact frozen_of hc p
theorem row_cells {w0 w : World} {base g n cap : Nat} {ys : List Tag} {xs : List Value} (h : w.ownsRow base 52 7 (.slice (some ⟨g, 0, none⟩) n cap) n xs) (hr : TagRow w0 ys xs) {i : Nat} {y : Tag} (hi : ys[i]? = some y) (hn : ys.length = n) :
    ∃ k b m f s B len c, Has w0 (valV k b m f s B len c) y.2 ∧ TagAt w ⟨g, i * 7, none⟩ y.1 k b m f s B len c := by
  have hil := (List.getElem?_eq_some_iff.1 hi).1
  obtain ⟨k, b, m, f, s, B, len, c, h1, h2⟩ := hr.2 i y hi
  have hc : ∀ j u, (tagC y.1 k b m f s B len c)[j]? = some u → w.cell? ⟨g, i * 7 + j, none⟩ = some u := fun j u hu => by
    have hj : j < 7 := (List.getElem?_eq_some_iff.1 hu).1
    rw [h.cellAt _ (by omega)]
    exact h2 j u hu
  exact ⟨k, b, m, f, s, B, len, c, h1, (h.lt g rfl).2, hc 0 _ rfl, hc 1 _ rfl, hc 2 _ rfl, hc 3 _ rfl, hc 4 _ rfl, hc 5 _ rfl, hc 6 _ rfl⟩
theorem take_set_succ {α : Type} {zs : List α} {i : Nat} {y : α} (hi : i < zs.length) : (zs.set i y).take (i + 1) = zs.take i ++ [y] := by
  rw [List.take_succ_eq_append_getElem (by rw [List.length_set]; exact hi), List.take_set_of_le (Nat.le_refl _), List.getElem_set_self]
set_option maxRecDepth 8000 in
set_option maxHeartbeats 8000000 in
theorem delete_c (nb base : Nat) (name : List UInt8) (ys : List Tag) (v : Value) (xs : List Value) (w0 w : World) (hnb : w.cell? ⟨nb, 0, none⟩ = some (.string (st name))) (hb0 : Below w0.heap.size w0 w) (hown : w.ownsRow base 52 7 v ys.length xs) (hrow : TagRow w0 ys xs) (hbase : base ≤ w.heap.size) (hnbb : nb < base) (h0b : w0.heap.size ≤ base) (hl : ys.length ≤ 1000) :
    Calls Try.prog 41 #[v, delF nb] w fun e w' => ∃ v' xs', e = .returned v' ∧ w'.ownsRow base 52 7 v' (keepT name ys).length xs' ∧ TagRow w0 (keepT name ys) xs' ∧ Below base w w' := by
  rcases hown.2 with ⟨hv, hn⟩ | ⟨g, cap, _, hv, _, _, hncap, hcm, _, _⟩
  · subst hv
    obtain rfl := List.length_eq_zero_iff.1 hn
    have ci : Calls Try.prog 49 #[.slice none 0 0, delF nb] w fun e w' => ∃ r : Int, e = .returned (.int .i64 r) ∧ FirstAt [] name r ∧ Below w.heap.size w w' := indexTag_c nb name [] none 0 w hnb (fun i x hx => by simp at hx) (by simp)
    go_enter Try.func41, Try.ntmps41
    go_upto_region 2 with ((with_reducible refine ci.mono ?_); rintro e w1 ⟨r, rfl, hF, hb1⟩)
    rcases hF with ⟨rfl, _⟩ | ⟨i, _, ⟨y, hy, _⟩, _⟩
    rotate_left
    · simp at hy
    have hown1 := own_below hown hb1
    clear ci hown
    go_wp2_with fail
    go_ret
    exact ⟨_, xs, rfl, hown1, hrow, hb1.mono hbase⟩
  · subst hv
    have ci := indexTag_c nb name ys (some ⟨g, 0, none⟩) cap w hnb (TagsN.ofRow hown hrow rfl hb0) (by omega)
    go_enter Try.func41, Try.ntmps41
    go_upto_region 2 with ((with_reducible refine ci.mono ?_); rintro e w1 ⟨r, rfl, hF, hb1⟩)
    have hown1 := own_below hown hb1
    have hbw1 : Below base w w1 := hb1.mono hbase
    clear ci hown
    rcases hF with ⟨rfl, hall⟩ | ⟨i0, rfl, ⟨y, hy, hyn⟩, hno⟩
    · have hk := Lib.hid (keepT_all hall)
      clear hall
      go_wp2_with fail
      go_ret
      exact ⟨_, xs, rfl, by rw [hk.out]; exact hown1, by rw [hk.out]; exact hrow, hbw1⟩
    · have hi0 := (List.getElem?_eq_some_iff.1 hy).1
      have hstart : Delt w0 w1 base g ys.length cap ys name i0 (i0 + 1) := by
        refine ⟨⟨ys, xs, hown1, hrow, rfl, ?_, rfl⟩, Nat.lt_succ_self _⟩
        rw [keepT_take hy, hyn, if_pos rfl, List.append_nil, keepT_all]
        intro t z hz
        rw [List.getElem?_take] at hz
        split at hz
        · exact hno t z ‹_› hz
        · cases hz
      have w1' : IntKind.i64.wrap ((i0 : Int) + 1) = (i0 : Int) + 1 := by rw [wrap_i64]; omega
      clear hno hyn hown1 hrow hb1
      have hw0b := hb0
      go_wp2_with fail
      go_loopw [5, 6] (fun a5 a6 wr => ∃ i j : Nat, a5 = .int .i64 i ∧ a6 = .int .i64 j ∧ j ≤ ys.length ∧ Hid (Delt w0 wr base g ys.length cap ys name i j) ∧ Below base w wr) (fun _ b _ => ys.length - (intOf b).toNat)
      case atStart => exact ⟨i0, i0 + 1, rfl, by simp, hi0, hstart, hbw1⟩
      case round =>
        obtain ⟨i, j, rfl, rfl, hj, hd, hbr⟩ := hrel
        obtain ⟨⟨zs, xr, hor, htr, hzl, hzt, hzd⟩, hij⟩ := hd.out
        have hnbr : wr.cell? ⟨nb, 0, none⟩ = some (.string (st name)) := (hbr.cell (p := ⟨nb, 0, none⟩) hnbb).trans hnb
        clear hd hstart
        by_cases hjn : j < ys.length
        · have hjn' : (j : Int) < ys.length := by omega
          have hget : ys[j]? = some ys[j] := by simp
          have hzj : zs[j]? = some ys[j] := by
            have := congrArg (fun l => l[0]?) hzd
            exact (by simpa using this : zs[j]? = ys[j]?).trans hget
          obtain ⟨k', b', n', f', s', B', len', c', hv0, hat⟩ := row_cells hor htr hzj hzl
          obtain ⟨q7, q0, q1, q2, q3, q4, q5, q6⟩ := hat
          dsimp only at q7 q0 q1 q2 q3 q4 q5 q6
          obtain ⟨wa, hwa⟩ : ∃ wa, wa = wr.alloc (.cells (tagC ys[j].1 k' b' n' f' s' B' len' c').toArray 52) := ⟨_, rfl⟩
          have hra : Below wr.heap.size wr wa := hwa ▸ below_alloc _ _
          have hN : wa.heap[wr.heap.size]? = some (.cells #[.string (st ys[j].1), .int .i64 k', .bool b', .int .i64 n', .float .f64 f', .string (st s'), .slice B' len' c'] 52) := hwa ▸ alloc_here _ _
          have cd := del_c nb name ys[j].1 k' b' n' f' s' B' len' c' wa ((hra.cell (p := ⟨nb, 0, none⟩) (World.block_lt_of_cell? wr ⟨nb, 0, none⟩ hnbr)).trans hnbr)
          have hka := Lib.hid (keepT_take (name := name) hget)
          have w2' : IntKind.i64.wrap ((j : Int) + 1) = (j : Int) + 1 := by rw [wrap_i64]; omega
          have w3' : IntKind.i64.wrap ((i : Int) + 1) = (i : Int) + 1 := by rw [wrap_i64]; omega
          have hba : Below base w wa := hbr.trans (hra.mono (by have := hbr.size; omega))
          have hora := own_below hor hra
          generalize ys[j] = y2 at *
          obtain ⟨nm, vv⟩ := y2
          dsimp only at *
          have hget' := Lib.hid hget
          have hzj' := Lib.hid hzj
          clear hget hzj hy
          go_upto_region 8 with fail
          rw [← hwa]
          generalize hNg : wr.heap.size = N at *
          have y0 := cell_of hN 0
          have y1 := cell_of hN 1
          have y2 := cell_of hN 2
          have y3 := cell_of hN 3
          have y4 := cell_of hN 4
          have y5 := cell_of hN 5
          have y6 := cell_of hN 6
          have yl := (Array.getElem?_eq_some_iff.1 hN).1
          simp at y0 y1 y2 y3 y4 y5 y6
          clear hwa q0 q1 q2 q3 q4 q5 q6 q7
          cases hdel : (nm == name)
          · rw [hdel] at cd
            go_upto_region 9 with ((with_reducible refine cd.mono ?_); rintro e w2 ⟨rfl, hb2⟩)
            have hor2 := own_below hora hb2
            have hN2 := (hb2.block N yl).trans hN
            have hbw2 : Below base w w2 := hba.trans (hb2.mono (by have := hba.size; omega))
            clear y0 y1 y2 y3 y4 y5 y6 cd hN hb2 yl
            have y0 := cell_of hN2 0
            have y1 := cell_of hN2 1
            have y2 := cell_of hN2 2
            have y3 := cell_of hN2 3
            have y4 := cell_of hN2 4
            have y5 := cell_of hN2 5
            have y6 := cell_of hN2 6
            have yl := (Array.getElem?_eq_some_iff.1 hN2).1
            simp at y0 y1 y2 y3 y4 y5 y6
            have hiz : zs[i]? = some (zs[i]'(by omega)) := by simp
            obtain ⟨k2, b2, n2, f2, s2, B2, len2, c2, _, hat2⟩ := row_cells hor2 htr hiz hzl
            obtain ⟨q7, q0, q1, q2, q3, q4, q5, q6⟩ := hat2
            dsimp only at q7 q0 q1 q2 q3 q4 q5 q6
            have z0 := own_frozen hor2 (i * 7)
            have z1 := own_frozen hor2 (i * 7 + 1)
            have z2 := own_frozen hor2 (i * 7 + 2)
            have z3 := own_frozen hor2 (i * 7 + 3)
            have z4 := own_frozen hor2 (i * 7 + 4)
            have z5 := own_frozen hor2 (i * 7 + 5)
            have z6 := own_frozen hor2 (i * 7 + 6)
            have hin : (i : Int) < ys.length := by omega
            have hown' := own_set1 (p := i * 7 + 6) (.slice B' len' c') (own_set1 (p := i * 7 + 5) (.string (st s')) (own_set1 (p := i * 7 + 4) (.float .f64 f') (own_set1 (p := i * 7 + 3) (.int .i64 n') (own_set1 (p := i * 7 + 2) (.bool b') (own_set1 (p := i * 7 + 1) (.int .i64 k') (own_set1 (p := i * 7) (.string (st nm)) hor2))))))
            have htr' := htr.put (i := i) (by omega) (y := (nm, vv)) hv0
            have hgb : base ≤ g := (hor2.lt g rfl).1
            generalize zs[i]'(by omega) = zi at *
            have hgone := Lib.hid (And.intro htr hzd)
            have hown' := Lib.hid hown'
            have htr' := Lib.hid htr'
            clear hor2 htr hzd hor hora hiz hN2 hv0
            have hzt' : (zs.set i (nm, vv)).take (i + 1) = keepT name (ys.take (j + 1)) := by
              rw [take_set_succ (by omega), hzt, hka.out, hdel]
              rfl
            have hzd' : (zs.set i (nm, vv)).drop (j + 1) = ys.drop (j + 1) := by
              rw [List.drop_set_of_lt (by omega)]
              have := congrArg (List.drop 1) hgone.out.2
              simpa using this
            have hzl' : (zs.set i (nm, vv)).length = ys.length := by rw [List.length_set]; exact hzl
            have hfin : ∀ w, w.ownsRow base 52 7 (.slice (some ⟨g, 0, none⟩) ys.length cap) ys.length (put7 xr i nm k' b' n' f' s' B' len' c') → Delt w0 w base g ys.length cap ys name (i + 1) (j + 1) := fun w h => ⟨⟨_, _, h, htr'.out, hzl', hzt', hzd'⟩, by omega⟩
            clear hzt hzt' hzd' hzl' hka hgone htr'
            go_wp2_with fail
            exact ⟨⟨i + 1, by simp, j + 1, by simp, hjn, hfin _ hown'.out, ((((((hbw2.setCell (p := ⟨g, i * 7, none⟩) hgb _).setCell (p := ⟨g, i * 7 + 1, none⟩) hgb _).setCell (p := ⟨g, i * 7 + 2, none⟩) hgb _).setCell (p := ⟨g, i * 7 + 3, none⟩) hgb _).setCell (p := ⟨g, i * 7 + 4, none⟩) hgb _).setCell (p := ⟨g, i * 7 + 5, none⟩) hgb _).setCell (p := ⟨g, i * 7 + 6, none⟩) hgb _⟩, by simp [intOf]; omega⟩
          · rw [hdel] at cd
            have hor2 := fun w2 (hb2 : Below wa.heap.size wa w2) => own_below hora hb2
            have hD : ∀ w2, Below wa.heap.size wa w2 → Delt w0 w2 base g ys.length cap ys name i (j + 1) := fun w2 hb2 => by
              refine ⟨⟨zs, xr, own_below hora hb2, htr, hzl, ?_, ?_⟩, by omega⟩
              · rw [hzt, hka.out, hdel, if_pos rfl, List.append_nil]
              · have := congrArg (List.drop 1) hzd
                simpa using this
            clear hor2
            go_wp2_with ((with_reducible refine cd.mono ?_); rintro e w2 ⟨rfl, hb2⟩)
            refine ⟨?_, by simp [intOf]; omega⟩
            (repeat' apply Exists.intro)
            exact ⟨⟨i, j + 1, rfl, rfl, hjn, hD w2 hb2, hba.trans (hb2.mono (by have := hba.size; omega))⟩, rfl⟩
        · have hjn' : ¬ (j : Int) < ys.length := by omega
          have ej : j = ys.length := by omega
          have hzt2 : zs.take i = keepT name ys := by rw [hzt, ej, List.take_length]
          have hil : i < ys.length := by omega
          have hicap : (i : Int) ≤ cap := by omega
          have hil2 : (i : Int) ≤ ys.length := by omega
          have hgl := (hor.lt g rfl).1
          have hkl : (keepT name ys).length = i := by rw [← hzt2, List.length_take]; omega
          obtain ⟨vs, hclr⟩ := run_clear_tags wr 0 g (i * 7) (ys.length - i) (cap - i) (by omega) (fun p hp => by
            rw [hor.cellAt _ (by omega), List.getElem?_eq_getElem (by rw [htr.1]; omega)]; rfl) (fun p hp => own_frozen hor _)
          have hfin := own_out vs (i * 7) (own_less hor (Nat.le_of_lt hil)) (Nat.le_refl _)
          have htf := htr.take i (by omega)
          rw [hzt2] at htf
          have hbf : Below base w (wr.setCells g (i * 7) vs) := by
            obtain ⟨h1, h2, h3, h4, h5⟩ := only_sets (g := g) (w0 := wr) vs (i * 7) ⟨fun _ _ => rfl, rfl, rfl, rfl, rfl⟩
            exact hbr.trans ⟨h3, h4, h5, Nat.le_of_eq h2.symm, fun k hk => h1 k (by omega)⟩
          have hfin := Lib.hid hfin
          have hkl := Lib.hid hkl
          clear hzt hzt2 hzd htr hor
          go_wp2_with fail
          go_ret
          exact ⟨_, rfl, _, hfin.out, htf, hbf⟩
end Go.Proofs.Ytfccplkfdhpdgaa
