
/-
  fold.Sum.
-/
import Derived.Test.YtipjelkdbbhcpaaFdC
import Derived.Test.YtipjelkdbbhcpaaCel
set_option linter.unusedSimpArgs false
set_option linter.unusedVariables false
namespace Go.Proofs.Ytipjelkdbbhcpaa
open Go.RowKit Go.Deep

abbrev addP (a b : Val) : Val × Int := arV .add (· + ·) a b
/-- a sum, one behind the other -/
def sumF : List Val → Val → Val × Int
  | [], acc => (acc, 0)
  | x :: l, acc => if (addP acc x).2 ≠ 0 then (noV, (addP acc x).2) else sumF l (addP acc x).1
theorem sumF_step {l : List Val} {i : Nat} {x : Val} (h : l[i]? = some x) (acc : Val) : sumF (l.drop i) acc = if (addP acc x).2 ≠ 0 then (noV, (addP acc x).2) else sumF (l.drop (i + 1)) (addP acc x).1 := by
  obtain ⟨hi, rfl⟩ := List.getElem?_eq_some_iff.1 h
  rw [List.drop_eq_getElem_cons hi, sumF]
theorem sumF_end {l : List Val} {i : Nat} (h : l.length ≤ i) (acc : Val) : sumF (l.drop i) acc = (acc, 0) := by rw [List.drop_of_length_le h, sumF]
set_option maxRecDepth 8000 in
set_option maxHeartbeats 2000000 in
theorem fsum_c (A : Option Addr) (cap : Nat) (l : List Val) (w : World) (hp : Parts w A l) (hl : l.length ≤ 100) :
    Calls Try.prog 16 #[.slice A l.length cap] w (ArEnds (sumF l (intV 0)) w) := by
  go_enter Try.func16, Try.ntmps16
  go_upto_region 2 with ((with_reducible refine (vint_c 0 _).mono ?_); rintro e w2 ⟨rfl, hb2⟩)
  obtain ⟨w3, hw3⟩ : ∃ w3, w3 = w2.alloc (.cells #[.int .i64 2, .bool false, .int .i64 0, .float .f64 0, .string (st []), .slice none 0 0] 27) := ⟨_, rfl⟩
  have k3 : Below w2.heap.size w2 w3 := hw3 ▸ below_alloc w2 _
  have c4 : Cel w3 w2.heap.size 2 false 0 0 [] none 0 0 := hw3 ▸ Cel.new w2 2 false 0 0 [] none 0 0
  have c2 : Cel w3 w.heap.size 0 false 0 0 [] none 0 0 := ((Cel.new w 0 false 0 0 [] none 0 0).keep hb2).keep k3
  have B2 := (below_alloc w (.cells #[.int .i64 0, .bool false, .int .i64 0, .float .f64 0, .string (st []), .slice none 0 0] 27)).trans (hb2.mono (by simp))
  have B3 := B2.trans (k3.mono B2.size)
  have hg : w.heap.size < w2.heap.size := by have := hb2.size; simp at this; omega
  rw [← hw3]
  clear hw3 hb2 k3 B2
  generalize w2.heap.size = g at *
  go_wp2_with fail
  go_loopw [5, 11] (fun a5 a11 wr => ∃ (i : Nat) (acc : Val), a11 = .int .i64 i ∧ a5 = .int .i64 0 ∧ i ≤ l.length ∧ Flat acc ∧ Hid (sumF l (intV 0) = sumF (l.drop i) acc) ∧ Cel wr w.heap.size 0 false 0 0 [] none 0 0 ∧ Cel wr g acc.k acc.b acc.n acc.f acc.s none 0 0 ∧ Below w.heap.size w wr) (fun _ a _ => l.length - (intOf a).toNat)
  case atStart => exact ⟨0, intV 0, rfl, rfl, Nat.zero_le _, intV_flat ⟨by omega, by omega⟩, rfl, c2, c4, B3⟩
  case round =>
    clear c2 c4 B3
    obtain ⟨i, acc, rfl, rfl, hi, hfa, hsum, c2, c4, hbr⟩ := hrel
    by_cases hil : i < l.length
    · have hil' : (i : Int) < l.length := by omega
      obtain ⟨ad, k, b, n, f, s, B, len, c, rfl, hx, hat⟩ := hp i l[i] (by simp)
      obtain ⟨q0, q1, q2, q3, q4, q5, q6⟩ := hat.keep hbr
      have hst := Lib.hid (sumF_step (l := l) (i := i) (x := l[i]) (by simp) acc)
      have wi : IntKind.i64.wrap ((i : Int) + 1) = (i : Int) + 1 := by rw [wrap_i64]; omega
      obtain ⟨A0, cp, he, _, hn, _⟩ := hx.open
      simp at he
      obtain ⟨rfl, rfl, rfl, rfl, rfl, rfl, rfl, rfl⟩ := he
      have hcx := fun wx => fadd_c acc l[i] none B 0 0 l[i].l.length c wx hfa.n hn
      have hfl := arV_flat .add (· + ·) acc l[i]
      generalize l[i] = x at *
      generalize hX : arV .add (· + ·) acc x = X at *
      obtain ⟨y, e⟩ := X
      unfold ArEnds at hcx
      dsimp only at hcx hfl
      have hst2 : sumF (l.drop i) acc = if e ≠ 0 then (noV, e) else sumF (l.drop (i + 1)) y := by rw [hst.out, show addP acc x = (y, e) from hX]
      have hST := Lib.hid hst2
      clear hst hst2 hX hx hat
      have hB7 : ∀ w8, Below (wr.alloc (.cells #[.int .i64 x.k, .bool x.b, .int .i64 x.n, .float .f64 x.f, .string (st x.s), .slice B x.l.length c] 27)).heap.size (wr.alloc (.cells #[.int .i64 x.k, .bool x.b, .int .i64 x.n, .float .f64 x.f, .string (st x.s), .slice B x.l.length c] 27)) w8 → Below wr.heap.size wr w8 := fun w8 h => (below_alloc wr _).trans (h.mono (by simp))
      obtain ⟨⟨a6, a0, a1, a2, a3, a4, a5⟩, a7⟩ := c4
      have c4 : Cel wr g acc.k acc.b acc.n acc.f acc.s none 0 0 := ⟨⟨a6, a0, a1, a2, a3, a4, a5⟩, a7⟩
      have c4 := Lib.hid c4
      have c2 := Lib.hid c2
      go_upto_region 6 with ((with_reducible refine (hcx _).mono ?_); rintro e w8 ⟨rfl, hb8⟩; obtain ⟨⟨g6, g0, g1, g2, g3, g4, g5⟩, g7⟩ := c4.out.keep (hB7 w8 hb8); have gf := (c4.out.keep (hB7 w8 hb8)).frozen)
      have c48 := (c4.out.keep (hB7 w8 hb8)).put y.k y.b y.n y.f y.s none 0 0
      have c28 := (c2.out.keep (hB7 w8 hb8)).other (w' := put6 w8 g y.k y.b y.n y.f y.s none 0 0) (by rw [put6_size]; exact Nat.le_refl _) (put6_heap (by omega) ..)
      have B8 := put6_below (hbr.trans ((hB7 w8 hb8).mono hbr.size)) (Nat.le_of_lt hg) y.k y.b y.n y.f y.s none 0 0
      have hw9 : put6 w8 g y.k y.b y.n y.f y.s none 0 0 = (((((w8.setCell ⟨g, 0, none⟩ (.int .i64 y.k)).setCell ⟨g, 1, none⟩ (.bool y.b)).setCell ⟨g, 2, none⟩ (.int .i64 y.n)).setCell ⟨g, 3, none⟩ (.float .f64 y.f)).setCell ⟨g, 4, none⟩ (.string (st y.s))).setCell ⟨g, 5, none⟩ (.slice none 0 0) := rfl
      rw [← hw9]
      generalize put6 w8 g y.k y.b y.n y.f y.s none 0 0 = w9 at *
      clear hw9 g0 g1 g2 g3 g4 g5 g6 g7 gf a0 a1 a2 a3 a4 a5 a6 a7 q0 q1 q2 q3 q4 q5 q6 hB7 hb8 c4 c2 hbr hcx hp
      by_cases he : e = 0
      · subst he
        go_wp2_with fail
        refine ⟨⟨i + 1, y, rfl, rfl, hil, hfl, ?_, c28, c48, B8⟩, by simp [intOf]; omega⟩
        show _ = _
        rw [hsum.out, hST.out]
        rfl
      · have he' : (e != 0) = true := by simpa using he
        have hres : sumF l (intV 0) = (noV, e) := by rw [hsum.out, hST.out, if_pos he]
        have hR := Lib.hid hres
        obtain ⟨⟨g6, g0, g1, g2, g3, g4, g5⟩, g7⟩ := c28
        have gf := Cel.frozen (w := w9) (g := w.heap.size) ⟨⟨g6, g0, g1, g2, g3, g4, g5⟩, g7⟩
        have y5 : w.heap.size ≤ w.heap.size := Nat.le_refl _
        clear hres c48 hsum hST
        go_wp2_with fail
        refine bodyPost_ret (v := .tuple #[valV 0 false 0 0 [] none 0 0, .int .i64 e]) (by simp only [results, Try.results16] <;> go_simp) rfl ⟨by rw [hR.out] <;> rfl, ?_⟩
        repeat (with_reducible refine back_set ?_ _ y5 _)
        exact B8
    · have hil' : ¬ (i : Int) < l.length := by omega
      have hres : sumF l (intV 0) = (acc, 0) := by rw [hsum.out, sumF_end (by omega)]
      have hR := Lib.hid hres
      obtain ⟨⟨g6, g0, g1, g2, g3, g4, g5⟩, g7⟩ := c2
      have gf := Cel.frozen (w := wr) (g := w.heap.size) ⟨⟨g6, g0, g1, g2, g3, g4, g5⟩, g7⟩
      obtain ⟨⟨a6, a0, a1, a2, a3, a4, a5⟩, a7⟩ := c4
      have y5 : w.heap.size ≤ w.heap.size := Nat.le_refl _
      clear hres hsum hp
      go_wp2_with fail
      refine bodyPost_ret (v := .tuple #[valV acc.k acc.b acc.n acc.f acc.s none 0 0, .int .i64 0]) (by simp only [results, Try.results16]; go_simp) rfl ⟨by rw [hR.out] <;> rfl, ?_⟩
      repeat (with_reducible refine back_set ?_ _ y5 _)
      exact hbr
end Go.Proofs.Ytipjelkdbbhcpaa
