
/-
  fold.End; the reference's.
-/
import Derived.Test.YtipjelkdbbhcpaaFdK
set_option linter.unusedSimpArgs false
set_option linter.unusedVariables false
namespace Go.Proofs.Ytipjelkdbbhcpaa
open Go.RowKit Go.Deep

/-- is a value to be taken in the place of another one? -/
def btV (g : Bool) (x y : Val) : Bool := if g then decide (0 < cmpV x y) else decide (cmpV x y < 0)
def bestV (g : Bool) : List Val → Val
  | [] => noV
  | x :: l => l.foldl (fun acc y => if btV g y acc then y else acc) x
theorem bestV_snoc (g : Bool) {l : List Val} (h : l ≠ []) (x : Val) : bestV g (l ++ [x]) = if btV g x (bestV g l) then x else bestV g l := by
  cases l with
  | nil => exact absurd rfl h
  | cons y l =>
    show List.foldl _ _ (l ++ [x]) = _
    rw [List.foldl_append]
    rfl
theorem bestV_take (g : Bool) {l : List Val} {i : Nat} {x : Val} (h : l[i + 1]? = some x) : bestV g (l.take (i + 2)) = if btV g x (bestV g (l.take (i + 1))) then x else bestV g (l.take (i + 1)) := by
  obtain ⟨hi, rfl⟩ := List.getElem?_eq_some_iff.1 h
  rw [List.take_succ_eq_append_getElem hi]
  exact bestV_snoc g (by
    intro he
    have h2 := congrArg List.length he
    rw [List.length_take, List.length_nil] at h2
    omega) _
def endV (g : Bool) (l : List Val) : Val × Bool := if l.isEmpty then (noV, false) else (bestV g l, true)
def EndEnds (x : Val × Bool) (w : World) (e : Ending) (w' : World) : Prop := ∃ u, e = .returned (.tuple #[u, .bool x.2]) ∧ Has w' u x.1 ∧ Below w.heap.size w w'
theorem add_two (ad : Addr) (i : Nat) : (ad.add 6).add (i * 6) = ad.add ((i + 1) * 6) := by
  rw [Go.Deep.add_add]
  congr 1
  omega
set_option maxRecDepth 8000 in
set_option maxHeartbeats 4000000 in
theorem fend_c (A : Option Addr) (cap : Nat) (l : List Val) (g : Bool) (w : World) (hp : Parts w A l) (hl : l.length ≤ cap) (hcap : cap ≤ maxLen) (h20 : l.length ≤ 20) :
    Calls Try.prog 13 #[.slice A l.length cap, .bool g] w (EndEnds (endV g l) w) := by
  unfold maxLen at hcap
  cases l with
  | nil =>
    have fin : ∀ w', Below w.heap.size w w' → EndEnds (endV g []) w (.returned (.tuple #[valV 0 false 0 0 [] none 0 0, .bool false])) w' := fun w' h => ⟨_, rfl, noV_flat.has w', h⟩
    have y5 : w.heap.size ≤ w.heap.size := Nat.le_refl _
    clear hp
    go_enter Try.func13, Try.ntmps13
    go_wp2
    refine bodyPost_ret (v := .tuple #[valV 0 false 0 0 [] none 0 0, .bool false]) (by simp only [results, Try.results13]; go_simp) rfl (fin _ ?_)
    first | exact below_alloc _ _ | (repeat (with_reducible refine back_set ?_ _ y5 _); exact below_alloc _ _)
  | cons x0 l0 =>
    obtain ⟨ad, k, b, n, f, s, B, len, c, rfl, hx, hat⟩ := hp 0 x0 rfl
    have ha : ad.add (0 * 6) = ad := by simp [Addr.add]
    rw [ha] at hat
    have hE : endV g (x0 :: l0) = (bestV g (x0 :: l0), true) := rfl
    have hE' := Lib.hid hE
    clear hE ha
    have hne : (((x0 :: l0).length : Int) == 0) = false := by simp; omega
    have hpos : (0 : Int) < ((x0 :: l0).length : Int) := by simp
    have h1c : (1 : Int) ≤ ((x0 :: l0).length : Int) := by omega
    have hb0 := Lib.hid (show bestV g ((x0 :: l0).take 1) = x0 from rfl)
    have hx0 : (x0 :: l0)[0]? = some x0 := rfl
    generalize x0 :: l0 = l at *
    obtain ⟨L, hL⟩ : ∃ L, l.length = L := ⟨_, rfl⟩
    have hLh := Lib.hid hL
    rw [hL] at hl h20 hne hpos h1c ⊢
    clear hL
    have hat1 := hat.keep (below_alloc w (.cells #[.int .i64 0, .bool false, .int .i64 0, .float .f64 0, .string (st []), .slice none 0 0] 27))
    obtain ⟨q6, q0, q1, q2, q3, q4, q5⟩ := hat1
    go_enter Try.func13, Try.ntmps13
    have hc1 : (1 : Int) ≤ cap := by omega
    by_cases hk1 : cap = 1
    · subst hk1
      have hL1 : L = 1 := by omega
      have hb0' : bestV g l = x0 := by rw [← hb0.out, List.take_of_length_le (by rw [hLh.out]; omega)]
      have fin : ∀ w', Below w.heap.size w w' → EndEnds (endV g l) w (.returned (.tuple #[valV k b n f s B len c, .bool true])) w' := fun w' h => ⟨_, by rw [hE'.out], by rw [hE'.out, hb0']; exact hx.keep h, h⟩
      subst hL1
      clear hb0' hE' hp
      go_upto_region 5 with fail
      obtain ⟨w1, hw1⟩ : ∃ w1, w1 = w.alloc (.cells #[.int .i64 0, .bool false, .int .i64 0, .float .f64 0, .string (st []), .slice none 0 0] 27) := ⟨_, rfl⟩
      obtain ⟨w2, hw2⟩ : ∃ w2, w2 = w1.alloc (.cells #[.int .i64 k, .bool b, .int .i64 n, .float .f64 f, .string (st s), .slice B len c] 27) := ⟨_, rfl⟩
      have s1 : w1.heap.size = w.heap.size + 1 := hw1 ▸ alloc_grows _ _ rfl
      have b1 : Below w.heap.size w w1 := hw1 ▸ below_alloc w _
      have k2 : Below w1.heap.size w1 w2 := hw2 ▸ below_alloc w1 _
      have c0 : Cel w2 w.heap.size 0 false 0 0 [] none 0 0 := Cel.keep (hw1 ▸ Cel.new w 0 false 0 0 [] none 0 0) k2
      have c1 : Cel w2 (w.heap.size + 1) k b n f s B len c := s1 ▸ hw2 ▸ Cel.new w1 k b n f s B len c
      have b2 := b1.trans (k2.mono b1.size)
      rw [show (w.alloc (.cells #[.int .i64 0, .bool false, .int .i64 0, .float .f64 0, .string ⟨#[]⟩, .slice none 0 0] 27)).alloc (.cells #[.int .i64 k, .bool b, .int .i64 n, .float .f64 f, .string (st s), .slice B len c] 27) = w2 from by rw [hw2, hw1] <;> rfl]
      clear hw1 hw2 s1 b1 k2 q0 q1 q2 q3 q4 q5 q6 hat
      obtain ⟨⟨g6, g0, g1, g2, g3, g4, g5⟩, g7⟩ := c0
      have gf := Cel.frozen (w := w2) (g := w.heap.size) ⟨⟨g6, g0, g1, g2, g3, g4, g5⟩, g7⟩
      obtain ⟨⟨a6, a0, a1, a2, a3, a4, a5⟩, a7⟩ := c1
      have y5 : w.heap.size ≤ w.heap.size := Nat.le_refl _
      go_wp2_with fail
      go_loopw [20] (fun a20 wr => a20 = .int .i64 0 ∧ wr = w2) (fun _ _ => 0)
      case atStart => exact ⟨rfl, rfl⟩
      case round =>
        obtain ⟨rfl, rfl⟩ := hrel
        go_wp2_with fail
        refine bodyPost_ret (v := .tuple #[valV k b n f s B len c, .bool true]) (by simp only [results, Try.results13]; go_simp) rfl (fin _ ?_)
        repeat (with_reducible refine back_set ?_ _ y5 _)
        exact b2
    · have hk1' : ¬ ((cap : Int) - 1 = 0) := by omega
      go_upto_region 5 with fail
      obtain ⟨w1, hw1⟩ : ∃ w1, w1 = w.alloc (.cells #[.int .i64 0, .bool false, .int .i64 0, .float .f64 0, .string (st []), .slice none 0 0] 27) := ⟨_, rfl⟩
      obtain ⟨w2, hw2⟩ : ∃ w2, w2 = w1.alloc (.cells #[.int .i64 k, .bool b, .int .i64 n, .float .f64 f, .string (st s), .slice B len c] 27) := ⟨_, rfl⟩
      have s1 : w1.heap.size = w.heap.size + 1 := hw1 ▸ alloc_grows _ _ rfl
      have b1 : Below w.heap.size w w1 := hw1 ▸ below_alloc w _
      have k2 : Below w1.heap.size w1 w2 := hw2 ▸ below_alloc w1 _
      have c0 : Cel w2 w.heap.size 0 false 0 0 [] none 0 0 := Cel.keep (hw1 ▸ Cel.new w 0 false 0 0 [] none 0 0) k2
      have c1 : Cel w2 (w.heap.size + 1) k b n f s B len c := s1 ▸ hw2 ▸ Cel.new w1 k b n f s B len c
      have b2 := b1.trans (k2.mono b1.size)
      rw [show (w.alloc (.cells #[.int .i64 0, .bool false, .int .i64 0, .float .f64 0, .string ⟨#[]⟩, .slice none 0 0] 27)).alloc (.cells #[.int .i64 k, .bool b, .int .i64 n, .float .f64 f, .string (st s), .slice B len c] 27) = w2 from by rw [hw2, hw1] <;> rfl]
      clear hw1 hw2 s1 b1 k2 q0 q1 q2 q3 q4 q5 q6 hat hk1'
      have hx0' : Has w (valV k b n f s B len c) (bestV g (l.take (0 + 1))) := by rw [show (0 + 1 : Nat) = 1 from rfl, hb0.out]; exact hx
      clear hx hb0 hx0
      obtain ⟨M, hM⟩ : ∃ M, M = L - 1 := ⟨_, rfl⟩
      have hML : M + 1 = L := by omega
      rw [← hM]
      have hMh := Lib.hid hML
      clear hM hne hpos h1c hc1
      have hM20 : M ≤ 20 := by omega
      go_wp2_with fail
      go_loopw [20] (fun a20 wr => ∃ (i : Nat) (k : Int) (b : Bool) (n : Int) (f : Nat) (s : List UInt8) (B : Option Addr) (len c : Nat), a20 = .int .i64 i ∧ i ≤ M ∧ Has w (valV k b n f s B len c) (bestV g (l.take (i + 1))) ∧ Cel wr (w.heap.size + 1) k b n f s B len c ∧ Cel wr w.heap.size 0 false 0 0 [] none 0 0 ∧ Below w.heap.size w wr) (fun a _ => M - (intOf a).toNat)
      case atStart => exact ⟨0, k, b, n, f, s, B, len, c, rfl, Nat.zero_le _, hx0', c1, c0, b2⟩
      case round =>
        clear c1 c0 b2 hx0'
        obtain ⟨i, k, b, n, f, s, B, len, c, rfl, hi, hx, c1, c0, hbr⟩ := hrel
        by_cases hil : i < M
        · have hil' : (i : Int) < M := by omega
          have hlt : i + 1 < l.length := by rw [hLh.out]; have := hMh.out; omega
          obtain ⟨ad', k2, b2, n2, f2, s2, B2, len2, c2, he, hy, hat⟩ := hp (i + 1) l[i + 1] (by simp)
          cases he
          have ha : ad.add ((i + 1) * 6) = ⟨ad.block, ad.off + 6 + i * 6, none⟩ := by rw [show (i + 1) * 6 = (5 + i * 6) + 1 by omega]; simp [Addr.add]; omega
          have hat := hat.keep hbr
          rw [ha] at hat
          obtain ⟨q6, q0, q1, q2, q3, q4, q5⟩ := hat
          dsimp only at q6 q0 q1 q2 q3 q4 q5
          have hst := Lib.hid (bestV_take g (l := l) (i := i) (x := l[i + 1]) (by simp))
          have wi : IntKind.i64.wrap ((i : Int) + 1) = (i : Int) + 1 := by rw [wrap_i64]; omega
          have cc : ∀ wx, Below wr.heap.size wr wx → Calls Try.prog 33 #[valV k2 b2 n2 f2 s2 B2 len2 c2, valV k b n f s B len c] wx fun e w' => e = .returned (.int .i64 (cmpV l[i + 1] (bestV g (l.take (i + 1))))) ∧ Below wx.heap.size wx w' := fun wx h => cmpv_c _ _ _ _ wx (hy.keep (hbr.trans (h.mono hbr.size))) (hx.keep (hbr.trans (h.mono hbr.size)))
          have hbt : btV g l[i + 1] (bestV g (l.take (i + 1))) = if g then decide (0 < cmpV l[i + 1] (bestV g (l.take (i + 1)))) else decide (cmpV l[i + 1] (bestV g (l.take (i + 1))) < 0) := rfl
          have hT := Lib.hid hbt
          clear hp ha hbt
          generalize cmpV l[i + 1] (bestV g (l.take (i + 1))) = C at *
          generalize btV g l[i + 1] (bestV g (l.take (i + 1))) = T at *
          have hcc := cc _ (below_alloc wr (.cells #[.int .i64 k2, .bool b2, .int .i64 n2, .float .f64 f2, .string (st s2), .slice B2 len2 c2] 27))
          have hx8 := Box.new wr k2 b2 n2 f2 s2 B2 len2 c2 27
          have k8 := below_alloc wr (.cells #[.int .i64 k2, .bool b2, .int .i64 n2, .float .f64 f2, .string (st s2), .slice B2 len2 c2] 27)
          obtain ⟨⟨a6, a0, a1, a2, a3, a4, a5⟩, a7⟩ := c1
          have c1 : Cel wr (w.heap.size + 1) k b n f s B len c := ⟨⟨a6, a0, a1, a2, a3, a4, a5⟩, a7⟩
          have c1 := Lib.hid c1
          have c0 := Lib.hid c0
          clear cc
          go_upto_region 8 with ((with_reducible refine hcc.mono ?_); rintro e w6 ⟨rfl, hb6⟩)
          have k6 : Below wr.heap.size wr w6 := k8.trans (hb6.mono (by simp))
          obtain ⟨x6, x0, x1, x2, x3, x4, x5⟩ := hx8.keep hb6
          have c16 := c1.out.keep k6
          have c06 := c0.out.keep k6
          have B6 := hbr.trans (k6.mono hbr.size)
          have c1p := c16.put k2 b2 n2 f2 s2 B2 len2 c2
          have c0p := c06.other (w' := put6 w6 (w.heap.size + 1) k2 b2 n2 f2 s2 B2 len2 c2) (by rw [put6_size]; exact Nat.le_refl _) (put6_heap (by omega) ..)
          have B6p := put6_below B6 (show w.heap.size ≤ w.heap.size + 1 by omega) k2 b2 n2 f2 s2 B2 len2 c2
          have c16h := Lib.hid c16
          obtain ⟨⟨e6, e0, e1, e2, e3, e4, e5⟩, e7⟩ := c16
          have ef := c16h.out.frozen
          have hyy : Has w (valV k2 b2 n2 f2 s2 B2 len2 c2) l[i + 1] := hy
          have hP := Lib.hid (And.intro c1p (And.intro c0p B6p))
          have hN := Lib.hid (And.intro c06 B6)
          clear hb6 k6 k8 hcc hx8 a0 a1 a2 a3 a4 a5 a6 a7 c1 c0 q0 q1 q2 q3 q4 q5 q6 c1p c0p B6p c06 B6 hy hbr
          cases g
          · by_cases hC : C < 0
            · have hTT : T = true := by rw [hT.out]; simpa using hC
              have hb1 : bestV false (l.take (i + 2)) = l[i + 1] := by rw [hst.out, hTT]; rfl
              have hb1 := Lib.hid hb1
              clear hst hTT
              go_wp2_with fail
              exact ⟨⟨i + 1, k2, b2, n2, f2, s2, B2, len2, c2, rfl, hil, by rw [show i + 1 + 1 = i + 2 from rfl, hb1.out]; exact hyy, hP.out.1, hP.out.2.1, hP.out.2.2⟩, by simp [intOf]; omega⟩
            · have hTT : T = false := by rw [hT.out]; simpa using hC
              have hb1 : bestV false (l.take (i + 2)) = bestV false (l.take (i + 1)) := by rw [hst.out, hTT]; rfl
              have hb1 := Lib.hid hb1
              clear hst hTT hP
              go_wp2_with fail
              exact ⟨⟨i + 1, k, b, n, f, s, B, len, c, rfl, hil, by rw [show i + 1 + 1 = i + 2 from rfl, hb1.out]; exact hx, c16h.out, hN.out.1, hN.out.2⟩, by simp [intOf]; omega⟩
          · by_cases hC : 0 < C
            · have hTT : T = true := by rw [hT.out]; simpa using hC
              have hb1 : bestV true (l.take (i + 2)) = l[i + 1] := by rw [hst.out, hTT]; rfl
              have hb1 := Lib.hid hb1
              clear hst hTT
              go_wp2_with fail
              exact ⟨⟨i + 1, k2, b2, n2, f2, s2, B2, len2, c2, rfl, hil, by rw [show i + 1 + 1 = i + 2 from rfl, hb1.out]; exact hyy, hP.out.1, hP.out.2.1, hP.out.2.2⟩, by simp [intOf]; omega⟩
            · have hTT : T = false := by rw [hT.out]; simpa using hC
              have hb1 : bestV true (l.take (i + 2)) = bestV true (l.take (i + 1)) := by rw [hst.out, hTT]; rfl
              have hb1 := Lib.hid hb1
              clear hst hTT hP
              go_wp2_with fail
              exact ⟨⟨i + 1, k, b, n, f, s, B, len, c, rfl, hil, by rw [show i + 1 + 1 = i + 2 from rfl, hb1.out]; exact hx, c16h.out, hN.out.1, hN.out.2⟩, by simp [intOf]; omega⟩
        · have hil' : ¬ (i : Int) < M := by omega
          have hres : endV g l = (bestV g (l.take (i + 1)), true) := by
            rw [hE'.out, List.take_of_length_le (by rw [hLh.out]; have := hMh.out; omega)]
          have fin : ∀ w', Below w.heap.size w w' → EndEnds (endV g l) w (.returned (.tuple #[valV k b n f s B len c, .bool true])) w' := fun w' h => ⟨_, by rw [hres], by rw [hres]; exact hx.keep h, h⟩
          obtain ⟨⟨g6, g0, g1, g2, g3, g4, g5⟩, g7⟩ := c0
          have gf := Cel.frozen (w := wr) (g := w.heap.size) ⟨⟨g6, g0, g1, g2, g3, g4, g5⟩, g7⟩
          obtain ⟨⟨a6, a0, a1, a2, a3, a4, a5⟩, a7⟩ := c1
          have y5 : w.heap.size ≤ w.heap.size := Nat.le_refl _
          clear hp hres hx
          go_wp2_with fail
          refine bodyPost_ret (v := .tuple #[valV k b n f s B len c, .bool true]) (by simp only [results, Try.results13]; go_simp) rfl (fin _ ?_)
          repeat (with_reducible refine back_set ?_ _ y5 _)
          exact hbr
end Go.Proofs.Ytipjelkdbbhcpaa
