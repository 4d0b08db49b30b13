
/-
  The reference's End.
-/
import Derived.Test.YtipjelkdbbhcpaaFdE
set_option linter.unusedSimpArgs false
set_option linter.unusedVariables false
namespace Go.Proofs.Ytipjelkdbbhcpaa
open Go.RowKit Go.Deep

def okC (g : Bool) (c : Int) : Bool := c == 0 || (decide (c < 0) == g)
def okV (g : Bool) (x y : Val) : Bool := okC g (cmpV y x)
def topV (g : Bool) (l : List Val) (x : Val) : Bool := l.all (okV g x)
def rendV (g : Bool) (l : List Val) : Val × Bool := match l.find? (topV g l) with
  | some x => (x, true)
  | none => (noV, false)
theorem all_take {p : Val → Bool} {l : List Val} {k : Nat} {y : Val} (h : l[k]? = some y) : (l.take (k + 1)).all p = ((l.take k).all p && p y) := by
  obtain ⟨hi, rfl⟩ := List.getElem?_eq_some_iff.1 h
  rw [List.take_succ_eq_append_getElem hi, List.all_append]
  simp
theorem find_take {p : Val → Bool} {l : List Val} {i : Nat} {x : Val} (h : l[i]? = some x) (hno : (l.take i).find? p = none) (hp : p x = true) : l.find? p = some x := by
  have hd : l.drop i = x :: l.drop (i + 1) := by
    obtain ⟨hi, rfl⟩ := List.getElem?_eq_some_iff.1 h
    exact List.drop_eq_getElem_cons hi
  have e : l.find? p = (l.take i ++ l.drop i).find? p := by rw [List.take_append_drop]
  rw [e, List.find?_append, hno, hd, List.find?_cons, hp]
  rfl
theorem find_none_take {p : Val → Bool} {l : List Val} {i : Nat} {x : Val} (h : l[i]? = some x) (hno : (l.take i).find? p = none) (hp : p x = false) : (l.take (i + 1)).find? p = none := by
  obtain ⟨hi, rfl⟩ := List.getElem?_eq_some_iff.1 h
  rw [List.take_succ_eq_append_getElem hi, List.find?_append, hno]
  simp [hp]
set_option maxRecDepth 8000 in
set_option maxHeartbeats 4000000 in
theorem rend_c (A : Option Addr) (cap : Nat) (l : List Val) (g : Bool) (w : World) (hp : Parts w A l) (hl : l.length ≤ 100) :
    Calls Try.prog 14 #[.slice A l.length cap, .bool g] w (EndEnds (rendV g l) w) := by
  obtain ⟨w1, hw1⟩ : ∃ w1, w1 = w.alloc (.cells #[.int .i64 0, .bool false, .int .i64 0, .float .f64 0, .string (st []), .slice none 0 0] 27) := ⟨_, rfl⟩
  have b1 : Below w.heap.size w w1 := hw1 ▸ below_alloc w _
  have c0 : Cel w1 w.heap.size 0 false 0 0 [] none 0 0 := hw1 ▸ Cel.new w 0 false 0 0 [] none 0 0
  have hwa := Lib.hid hw1.symm
  clear hw1
  obtain ⟨L, hL⟩ : ∃ L, l.length = L := ⟨_, rfl⟩
  have hLh := Lib.hid hL
  rw [hL] at hl ⊢
  clear hL
  go_enter Try.func14, Try.ntmps14
  go_upto_region 1 with fail
  rw [hwa.out]
  clear hwa
  go_wp2_with fail
  go_loopw [6] (fun a6 wr => ∃ i : Nat, a6 = .int .i64 i ∧ i ≤ L ∧ Hid ((l.take i).find? (topV g l) = none) ∧ Cel wr w.heap.size 0 false 0 0 [] none 0 0 ∧ Below w.heap.size w wr) (fun a _ => L - (intOf a).toNat)
  case atStart => exact ⟨0, rfl, Nat.zero_le _, (by show _ = _; simp), c0, b1⟩
  case round =>
    clear c0 b1
    obtain ⟨i, rfl, hi, hno, c0, hbr⟩ := hrel
    by_cases hil : i < L
    · have hil' : (i : Int) < L := by omega
      have hlt : i < l.length := by rw [hLh.out]; exact hil
      obtain ⟨ad, k, b, n, f, s, B, len, c, rfl, hx, hat⟩ := hp i l[i] (by simp)
      have hxi : l[i]? = some l[i] := by simp
      have hK := fun (wx : World) (h : Below w.heap.size w wx) => hat.keep h
      have hHx := fun (wx : World) (h : Below w.heap.size w wx) => hx.keep h
      have wi : IntKind.i64.wrap ((i : Int) + 1) = (i : Int) + 1 := by rw [wrap_i64]; omega
      clear hx hat
      generalize l[i] = x at *
      go_wp2_with fail
      go_loopw [7, 8] (fun a7 a8 wx => ∃ k : Nat, a8 = .int .i64 k ∧ a7 = .bool ((l.take k).all (okV g x)) ∧ k ≤ L ∧ Cel wx w.heap.size 0 false 0 0 [] none 0 0 ∧ Below w.heap.size w wx) (fun _ a _ => L - (intOf a).toNat)
      case atStart => exact ⟨0, rfl, by simp, Nat.zero_le _, c0, hbr⟩
      case round =>
        clear c0 hbr
        obtain ⟨j, rfl, rfl, hj, c0, hbr⟩ := hrel
        by_cases hjl : j < L
        · have hjl' : (j : Int) < L := by omega
          have hlj : j < l.length := by rw [hLh.out]; exact hjl
          obtain ⟨ad2, k2, b2, n2, f2, s2, B2, len2, c2, he, hy, hat2⟩ := hp j l[j] (by simp)
          cases he
          obtain ⟨q6, q0, q1, q2, q3, q4, q5⟩ := hat2.keep hbr
          obtain ⟨s6, s0, s1, s2', s3, s4, s5⟩ := hK wr hbr
          have hst := Lib.hid (all_take (p := okV g x) (l := l) (k := j) (y := l[j]) (by simp))
          have wj : IntKind.i64.wrap ((j : Int) + 1) = (j : Int) + 1 := by rw [wrap_i64]; omega
          have cc : ∀ p : In wr, Calls Try.prog 12 #[valV k2 b2 n2 f2 s2 B2 len2 c2, valV k b n f s B len c] p.w fun e w' => e = .returned (.int .i64 (cmpV l[j] x)) ∧ Below p.w.heap.size p.w w' := fun p => rcmpv_c _ _ _ _ p.w (hy.keep (hbr.trans (p.h.mono hbr.size))) (hHx p.w (hbr.trans (p.h.mono hbr.size)))
          have hok : okV g x l[j] = okC g (cmpV l[j] x) := rfl
          have hOK := Lib.hid hok
          clear hok hy hat2 hp hK hHx
          generalize l[j] = y at *
          generalize cmpV y x = C at *
          generalize (l.take j).all (okV g x) = T at *
          have hc0 := Lib.hid c0
          go_upto_region 8 with fail
          (refine wp_region_flow [] (by kernel_rfl) (by kernel_rfl) ?_; (repeat (((with_reducible refine wpFlow_steps ?_); intro K hK; go_simp; first | (with_reducible refine hK _ ?_; clear hK K) | (apply Exists.intro; (with_reducible refine ⟨fun _ => ⟨?_, _, rfl⟩, hK _ ?_⟩); (· exact rfl); clear hK K) | (apply Exists.intro; (with_reducible refine ⟨fun _ => ⟨_, rfl⟩, hK _ ?_⟩); clear hK K) | (apply Exists.intro; (with_reducible refine ⟨fun _ => ?_, hK _ ?_⟩); (· (with_reducible (exact cc _))); clear hK K)))); (refine wpFlow_nil ?_; rintro w1 ⟨q0, hq0⟩; have hb := In.h q0; rw [← hq0] at hb; clear hq0 q0; (first | ((with_reducible obtain ⟨p, hw''⟩ := In.of2 p hb); subst hw'') | (obtain ⟨p, hw''⟩ := In.of hb; subst hw'')); go_simp; intros))
          have c0p := hc0.out.keep p.h
          have bp := hbr.trans (p.h.mono hbr.size)
          clear cc q0 q1 q2 q3 q4 q5 q6 s0 s1 s2' s3 s4 s5 s6 c0 hc0 hb
          generalize p.w = w5 at *
          clear p
          cases T
          · have hn : false = ((l.take (j + 1)).all (okV g x)) := by rw [hst.out]; rfl
            have hnH := Lib.hid hn
            clear hn
            clear hst
            go_wp2_with fail
            exact ⟨⟨j + 1, rfl, (by rw [hnH.out]), hjl, c0p, bp⟩, by simp [intOf]; omega⟩
          · by_cases hz : C = 0
            · have hn : true = ((l.take (j + 1)).all (okV g x)) := by rw [hst.out, hOK.out, hz]; rfl
              have hnH := Lib.hid hn
              clear hn
              have hz' : (C == 0) = true := by simpa using hz
              clear hst hOK hz
              go_wp2_with fail
              exact ⟨⟨j + 1, rfl, (by rw [hnH.out]), hjl, c0p, bp⟩, by simp [intOf]; omega⟩
            · have hz' : (C == 0) = false := by simpa using hz
              have hn : (decide (C < 0) == g) = ((l.take (j + 1)).all (okV g x)) := by rw [hst.out, hOK.out]; unfold okC; rw [hz']; simp
              have hnH := Lib.hid hn
              clear hn
              clear hst hOK hz
              go_wp2_with fail
              exact ⟨⟨j + 1, rfl, (by rw [hnH.out]), hjl, c0p, bp⟩, by simp [intOf]; omega⟩
        · have hjl' : ¬ (j : Int) < L := by omega
          have hall : (l.take j).all (okV g x) = topV g l x := by rw [List.take_of_length_le (by rw [hLh.out]; omega)]; rfl
          cases hT : (l.take j).all (okV g x)
          · have hno2 := find_none_take hxi hno.out (by rw [← hall, hT])
            have hno2H := Lib.hid hno2
            clear hno2
            clear hall
            go_wp2_with fail
            exact ⟨⟨i + 1, rfl, hil, hno2H, c0, hbr⟩, by simp [intOf]; omega⟩
          · have hres : rendV g l = (x, true) := by
              unfold rendV
              rw [find_take hxi hno.out (by rw [← hall, hT])]
            have fin : ∀ w', Below w.heap.size w w' → EndEnds (rendV g l) w (.returned (.tuple #[valV k b n f s B len c, .bool true])) w' := fun w' h => ⟨_, by rw [hres], by rw [hres]; exact hHx w' h, h⟩
            obtain ⟨s6, s0, s1, s2', s3, s4, s5⟩ := hK wr hbr
            obtain ⟨⟨g6, g0, g1, g2, g3, g4, g5⟩, g7⟩ := c0
            have gf := Cel.frozen (w := wr) (g := w.heap.size) ⟨⟨g6, g0, g1, g2, g3, g4, g5⟩, g7⟩
            have y5 : w.heap.size ≤ w.heap.size := Nat.le_refl _
            clear hres hall hK hHx hp hxi
            go_wp2_with fail
            refine bodyPost_ret (v := .tuple #[valV k b n f s B len c, .bool true]) (by simp only [results, Try.results14]; go_simp) rfl (fin _ ?_)
            repeat (with_reducible refine back_set ?_ _ y5 _)
            exact hbr
    · have hil' : ¬ (i : Int) < L := by omega
      have hres : rendV g l = (noV, false) := by
        have h := hno.out
        rw [List.take_of_length_le (by rw [hLh.out]; omega)] at h
        unfold rendV
        rw [h]
      have fin : ∀ w', Below w.heap.size w w' → EndEnds (rendV g l) w (.returned (.tuple #[valV 0 false 0 0 [] none 0 0, .bool false])) w' := fun w' h => ⟨_, by rw [hres], by rw [hres]; exact noV_flat.has w', h⟩
      obtain ⟨⟨g6, g0, g1, g2, g3, g4, g5⟩, g7⟩ := c0
      have gf := Cel.frozen (w := wr) (g := w.heap.size) ⟨⟨g6, g0, g1, g2, g3, g4, g5⟩, g7⟩
      have y5 : w.heap.size ≤ w.heap.size := Nat.le_refl _
      clear hres hp
      go_wp2_with fail
      refine bodyPost_ret (v := .tuple #[valV 0 false 0 0 [] none 0 0, .bool false]) (by simp only [results, Try.results14]; go_simp) rfl (fin _ ?_)
      repeat (with_reducible refine back_set ?_ _ y5 _)
      exact hbr
end Go.Proofs.Ytipjelkdbbhcpaa
