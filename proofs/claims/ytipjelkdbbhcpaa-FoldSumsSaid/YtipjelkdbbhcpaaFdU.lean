
/-
  The means.
-/
import Derived.Test.YtipjelkdbbhcpaaFdT
import Derived.Test.YtipjelkdbbhcpaaFdK
set_option linter.unusedSimpArgs false
set_option linter.unusedVariables false
namespace Go.Proofs.Ytipjelkdbbhcpaa
open Go.RowKit Go.Deep

theorem back_drew {w0 v : World} (h : Below w0.heap.size w0 v) : Below w0.heap.size w0 v.drew := h.trans ⟨rfl, rfl, rfl, Nat.le_refl _, fun _ _ => rfl⟩
theorem quo_of_nan {f x : Nat} (h : Fl.isNaN f = true) : floatBits .quo .f64 f x = none := by
  obtain ⟨t, ht⟩ := Fl.read_nan (of_decide_eq_true h)
  show Ieee.double.div f x = none
  unfold Ieee.Format.div
  rw [ht]; rfl
theorem opC_quo_canon (f x : Nat) : opC .quo (canon f) x = opC .quo f x := by
  cases h : Fl.isNaN f
  · rw [canon_num h]
  · unfold opC
    rw [quo_of_nan h, quo_of_nan (by rw [isNaN_canon', h])]
abbrev flsV (l : List Val) : List Nat := l.map floV
def meanV (l : List Val) : Val × Bool × Int := if l.all isNum = false then (noV, false, 190) else if l.length = 0 then (noV, false, 0) else (floV1 (opC .quo (sumTo (flsV l) l.length) (floatOfInt .f64 (l.length : Nat))), true, 0)
def MeanEnds (x : Val × Bool × Int) (w : World) (e : Ending) (w' : World) : Prop := e = .returned (.tuple #[flat x.1, .bool x.2.1, .int .i64 x.2.2]) ∧ Below w.heap.size w w'
def RMeanEnds (x : Val × Bool × Int) (w : World) (e : Ending) (w' : World) : Prop := ∃ y : Val, e = .returned (.tuple #[flat y, .bool x.2.1, .int .i64 x.2.2]) ∧ Flat y ∧ sameV y x.1 = true ∧ Below w.heap.size w w'
theorem meanV_flat (l : List Val) : Flat (meanV l).1 := by
  unfold meanV
  split
  · exact noV_flat
  split
  · exact noV_flat
  · exact floV_flat (opC_u64 _ _ _)
theorem all_take {l : List Val} {i : Nat} {x : Val} (h : l[i]? = some x) (ha : (l.take i).all isNum = true) (hx : isNum x = true) : (l.take (i + 1)).all isNum = true := by
  obtain ⟨hi, rfl⟩ := List.getElem?_eq_some_iff.1 h
  rw [List.take_succ_eq_append_getElem hi, List.all_append, ha]
  simp [hx]
theorem all_no {l : List Val} {i : Nat} {x : Val} (h : l[i]? = some x) (hx : isNum x = false) : l.all isNum = false := by
  rw [List.all_eq_false]
  exact ⟨x, List.mem_of_getElem? h, by simp [hx]⟩
theorem fls_get {l : List Val} {i : Nat} {x : Val} (h : l[i]? = some x) : (flsV l).getD i 0 = floV x := by
  rw [List.getD_eq_getElem?_getD]
  simp [h]
/-- the first values as floats, as they lie in a row -/
def flC (l : List Val) (i : Nat) : List Value := (l.take i).map fun v => Value.float .f64 (floV v)
theorem flC_get {l : List Val} {i k : Nat} {x : Val} (h : l[k]? = some x) (hk : k < i) : (flC l i)[k]? = some (.float .f64 (floV x)) := by
  unfold flC
  rw [List.getElem?_map, List.getElem?_take, if_pos hk, h]
  rfl
theorem fls_take {l : List Val} {i : Nat} {x : Val} (h : l[i]? = some x) : flC l (i + 1) = flC l i ++ [.float .f64 (floV x)] := by
  obtain ⟨hi, rfl⟩ := List.getElem?_eq_some_iff.1 h
  unfold flC
  rw [List.take_succ_eq_append_getElem hi, List.map_append]
  rfl
theorem Try.info25 : (Try.prog.info? 25).map (fun i => (i.zero, i.size, i.bytes)) = some (some (.float .f64 0), 1, 8) := by kernel_rfl

set_option maxRecDepth 8000 in
set_option maxHeartbeats 2000000 in
theorem fmean_c (A : Option Addr) (cap : Nat) (l : List Val) (w : World) (hp : Parts w A l) (hl : l.length ≤ 100) :
    Calls Try.prog 18 #[.slice A l.length cap] w (MeanEnds (meanV l) w) := by
  obtain ⟨i1, hi1, hz0, hz1, hz2⟩ := info_parts Try.info25
  obtain ⟨L, hLd⟩ : ∃ L, l.length = L := ⟨_, rfl⟩
  have hL := Lib.hid hLd
  rw [hLd] at hl ⊢
  clear hLd
  go_enter Try.func18, Try.ntmps18
  go_upto_region 2 with fail
  obtain ⟨w2, hw2⟩ : ∃ w2, w2 = w.alloc (.cells #[.int .i64 0, .bool false, .int .i64 0, .float .f64 0, .string (st []), .slice none 0 0] 27) := ⟨_, rfl⟩
  have B2 : Below w.heap.size w w2 := hw2 ▸ below_alloc w _
  have c2 : Cel w2 w.heap.size 0 false 0 0 [] none 0 0 := hw2 ▸ Cel.new w 0 false 0 0 [] none 0 0
  rw [show w.alloc (.cells #[.int .i64 0, .bool false, .int .i64 0, .float .f64 0, .string ⟨#[]⟩, .slice none 0 0] 27) = w2 from by rw [hw2] <;> rfl]
  clear hw2
  go_wp2_with fail
  go_loopw [5, 10] (fun a5 a10 wr => ∃ (i : Nat), a10 = .int .i64 i ∧ i ≤ L ∧ Hid ((l.take i).all isNum = true) ∧ wr.ownsRow (w.heap.size + 1) 25 1 a5 i (flC l i) ∧ Cel wr w.heap.size 0 false 0 0 [] none 0 0 ∧ Below w.heap.size w wr) (fun _ a _ => L - (intOf a).toNat)
  case atStart => exact ⟨0, rfl, Nat.zero_le _, (show Hid (([] : List Val).all isNum = true) from rfl), World.ownsRow_nil _ _ _ _, c2, B2⟩
  case round =>
    clear c2 B2
    obtain ⟨i, rfl, hi, hall, hown, c2, hbr⟩ := hrel
    have hlt2 := c2.lt
    by_cases hil : i < L
    · have hil' : (i : Int) < L := by omega
      obtain ⟨x, hx0⟩ : ∃ x, l[i]? = some x := ⟨l[i]'(by rw [hL.out]; exact hil), by simp⟩
      obtain ⟨ad, k, b, n, f, s, B, len, c, rfl, hx, hat⟩ := hp i x hx0
      obtain ⟨q6, q0, q1, q2, q3, q4, q5⟩ := hat.keep hbr
      have wi : IntKind.i64.wrap ((i : Int) + 1) = (i : Int) + 1 := by rw [wrap_i64]; omega
      obtain ⟨A0, cp, he, _, hn, _⟩ := hx.open
      simp at he
      obtain ⟨rfl, rfl, rfl, rfl, rfl, rfl, rfl, rfl⟩ := he
      have cn := fun wx => fnum_c x B x.l.length c wx
      have cf := fun wx => flo_c x B x.l.length c wx
      obtain ⟨w4, hw4⟩ : ∃ w4, w4 = wr.alloc (.cells #[.int .i64 x.k, .bool x.b, .int .i64 x.n, .float .f64 x.f, .string (st x.s), .slice B x.l.length c] 27) := ⟨_, rfl⟩
      have k4 : Below wr.heap.size wr w4 := hw4 ▸ below_alloc wr _
      have hx4 : Box w4 wr.heap.size x.k x.b x.n x.f x.s B x.l.length c := hw4 ▸ Box.new wr _ _ _ _ _ _ _ _ _
      have hxh := Lib.hid hx0
      clear hx hat hp hx0
      generalize hnx : isNum x = N at *
      have hNx := Lib.hid hnx
      clear hnx
      go_upto_region 5 with fail
      rw [← hw4]
      clear hw4 q0 q1 q2 q3 q4 q5 q6
      have hx4h := Lib.hid hx4
      obtain ⟨x6, x0, x1, x2, x3, x4, x5⟩ := hx4
      cases N
      · go_upto_region 6 with ((with_reducible refine (cn _).mono ?_); rintro e w5 ⟨rfl, hb5⟩)
        have k5 := k4.trans (hb5.mono k4.size)
        have B5 := hbr.trans (k5.mono hbr.size)
        have c5 := c2.keep k5
        have gf := fun j => c5.frozen j
        obtain ⟨⟨g6, g0, g1, g2, g3, g4, g5⟩, g7⟩ := c5
        have hres : meanV l = (noV, false, 190) := by unfold meanV; rw [all_no hxh.out hNx.out]; rfl
        have hR := Lib.hid hres
        have y5 : w.heap.size ≤ w.heap.size := Nat.le_refl _
        clear hres cn cf
        go_wp2_with fail
        refine bodyPost_ret (v := .tuple #[valV 0 false 0 0 [] none 0 0, .bool false, .int .i64 190]) (by simp only [results, Try.results18] <;> go_simp) rfl ⟨by rw [hR.out] <;> rfl, ?_⟩
        repeat (with_reducible refine back_set ?_ _ y5 _)
        exact B5
      · go_upto_region 7 with ((with_reducible refine (cn _).mono ?_); rintro e w5 ⟨rfl, hb5⟩)
        obtain ⟨x6, x0, x1, x2, x3, x4, x5⟩ := hx4h.out.keep hb5
        have k5 := k4.trans (hb5.mono k4.size)
        have B5 := hbr.trans (k5.mono hbr.size)
        have c5 := c2.keep k5
        have own5 := own_below2 hown k5
        clear cn hown c2 hbr k4 hb5 hx4h
        have cf5 := cf w5
        obtain ⟨fx, hfx0⟩ : ∃ fx, floV x = fx := ⟨_, rfl⟩
        rw [hfx0] at cf5
        have hfx := Lib.hid hfx0
        clear hfx0 cf
        go_wp2_with (first | ((with_reducible refine cf5.mono ?_); rintro e w6 ⟨rfl, hb6⟩) | (at_builtin; refine wpList_append_own _ rfl _ _ 59 rfl (w.heap.size + 1) 25 i1 (.float .f64 0) 1 8 Try.underlying59 hi1 hz0 hz1 hz2 rfl (by decide) _ _ _ rfl ((own_below2 own5 hb6).alloc _) _ 1 1 [.float .f64 fx] rfl rfl ?d1 ?d2 ?d3 ?d4 ?d5 ?_))
        case d1 =>
          intro j u hj
          match j, hj with
          | 0, hj => simp at hj; subst hj; simp [Addr.add, go_sem]
        case d2 => intro u hu; simp only [List.mem_cons, List.not_mem_nil, or_false] at hu; subst hu; rfl
        case d3 => unfold maxLen; omega
        case d4 => omega
        case d5 => have := B5.size; have := hb6.size; simp; omega
        intro v' w7 hown7 hgrow _
        have B6 := B5.trans (hb6.mono B5.size)
        have c6 := (c5.keep hb6).keep (below_alloc w6 (.cells #[.float .f64 fx] 25 (0, 0)))
        have c7 := c6.other hgrow.size (hgrow.block w.heap.size c6.lt (fun e => by have := ((own_below2 own5 hb6).lt _ e.symm).1; omega))
        have B7 : Below w.heap.size w w7 := (B6.alloc B6.size _).grown hgrow (by have := B6.size; simp; omega) fun k hk => by have := ((own_below2 own5 hb6).lt k hk).1; omega
        have hown8 : w7.ownsRow (w.heap.size + 1) 25 1 v' (i + 1) (flC l (i + 1)) := by
          rw [fls_take hxh.out, hfx.out]
          exact hown7
        clear hgrow hown7 own5 c5 c6
        go_wp2_with fail
        exact ⟨⟨i + 1, rfl, hil, all_take hxh.out hall.out hNx.out, hown8, c7, B7⟩, by simp [intOf]; omega⟩
    · have hil' : ¬ (i : Int) < L := by omega
      have hiL : i = L := by omega
      subst hiL
      have hall' : l.all isNum = true := by
        have h := hall.out
        rwa [List.take_of_length_le (by rw [hL.out]; omega)] at h
      have gf := fun j => c2.frozen j
      have c2h := Lib.hid c2
      have y5 : w.heap.size ≤ w.heap.size := Nat.le_refl _
      clear hp hall
      rcases Nat.eq_zero_or_pos i with hz | hz
      · have hres : meanV l = (noV, false, 0) := by
          unfold meanV
          rw [hall', hL.out, hz]
          rfl
        have hR := Lib.hid hres
        clear hres hall'
        obtain ⟨⟨g6, g0, g1, g2, g3, g4, g5⟩, g7⟩ := c2
        subst hz
        rcases hown.2 with ⟨ha, -⟩ | ⟨g, cc, cur, ha, -⟩
        · subst ha
          clear hown
          go_wp2_with fail
          refine bodyPost_ret (v := .tuple #[valV 0 false 0 0 [] none 0 0, .bool false, .int .i64 0]) (by simp only [results, Try.results18] <;> go_simp) rfl ⟨by rw [hR.out] <;> rfl, ?_⟩
          repeat (with_reducible refine back_set ?_ _ y5 _)
          exact hbr
        · subst ha
          clear hown
          go_wp2_with fail
          refine bodyPost_ret (v := .tuple #[valV 0 false 0 0 [] none 0 0, .bool false, .int .i64 0]) (by simp only [results, Try.results18] <;> go_simp) rfl ⟨by rw [hR.out] <;> rfl, ?_⟩
          repeat (with_reducible refine back_set ?_ _ y5 _)
          exact hbr
      · have hres : meanV l = (floV1 (opC .quo (sumTo (flsV l) i) (floatOfInt .f64 (i : Nat))), true, 0) := by
          unfold meanV
          rw [hall', hL.out, if_neg (by decide), if_neg (by omega)]
        have hR := Lib.hid hres
        have hne : ((i : Int) == 0) = false := by simp; omega
        clear hres hall'
        rcases hown.2 with ⟨ha, h0⟩ | ⟨g, cc, cur, ha, hgb, hgc, hnc, hcm, -⟩
        · omega
        · subst ha
          have fls : Floats wr (some ⟨g, 0, none⟩) i (flsV l) := by
            refine ⟨by unfold maxLen at hcm; omega, by rw [List.length_map]; exact hL.out, fun k hk => ⟨_, rfl, ?_⟩⟩
            have hk2 : l[k]? = some (l[k]'(by rw [hL.out]; exact hk)) := by simp
            rw [fls_get hk2]
            exact World.ownsRow.cells hown rfl k _ (flC_get hk2 hk)
          have cs := sum_c (some ⟨g, 0, none⟩) i cc (flsV l) wr fls
          unfold SumEnds at cs
          generalize sumTo (flsV l) i = S at *
          obtain ⟨Q, hQ⟩ : ∃ Q, opC .quo S (floatOfInt .f64 (i : Nat)) = Q := ⟨_, rfl⟩
          rw [hQ] at hR
          have kk : ∀ wX : World, Below wr.heap.size wr wX → ∀ w9, Below wX.heap.size wX w9 → Below wr.heap.size wr w9 := fun wX h w9 h9 => h.trans (h9.mono h.size)
          cases hb : floatBits .quo .f64 S (floatOfInt .f64 (i : Nat)) with
          | none =>
            have hrun := fun (w : World) (t : TypeId) => run_float_nan (P := Try.prog) w .quo (.inr (.inr (.inr rfl))) t S (floatOfInt .f64 (i : Nat)) hb
            have hQ2 : Q = 9221120237041090561 := by rw [← hQ]; unfold opC; rw [hb]
            subst hQ2
            have cv : ∀ wy wx, Calls Try.prog 42 #[.float .f64 (nanAns wy S (floatOfInt .f64 (i : Nat)))] wx fun e w' => e = .returned (valV 3 false 0 9221120237041090561 [] none 0 0) ∧ Below wx.heap.size wx w' := fun wy wx => by
              have := vfloat_c (nanAns wy S (floatOfInt .f64 (i : Nat))) wx
              rwa [canon_nan (nanAns_isNaN _ _ _).1] at this
            clear hb hQ fls hown c2
            go_wp2_with (first | ((with_reducible refine cs.mono ?_); rintro e w6 ⟨n, rfl, rfl⟩) | ((with_reducible refine (cv _ _).mono ?_); rintro e w9 ⟨rfl, hb9⟩; have k9 := kk _ (by exact ⟨rfl, rfl, rfl, Nat.le_refl _, fun _ _ => rfl⟩) _ hb9; have c9 := c2h.out.keep k9; have gf9 := (fun j => c9.frozen j); obtain ⟨⟨g6, g0, g1, g2, g3, g4, g5⟩, g7⟩ := c9))
            refine bodyPost_ret (v := .tuple #[valV 3 false 0 9221120237041090561 [] none 0 0, .bool true, .int .i64 0]) (by simp only [results, Try.results18] <;> go_simp) rfl ⟨by rw [hR.out] <;> rfl, ?_⟩
            repeat (with_reducible refine back_set ?_ _ y5 _)
            exact hbr.trans (k9.mono hbr.size)
          | some r =>
            have hrun := fun (w : World) (t : TypeId) => run_float_arith (P := Try.prog) w .quo t .f64 S (floatOfInt .f64 (i : Nat)) r hb
            have hQ2 : canon r = Q := by rw [← hQ]; unfold opC; rw [hb]
            have cv : ∀ wx, Calls Try.prog 42 #[.float .f64 r] wx fun e w' => e = .returned (valV 3 false 0 Q [] none 0 0) ∧ Below wx.heap.size wx w' := fun wx => by
              have := vfloat_c r wx
              rwa [hQ2] at this
            clear hb hQ hQ2 fls hown c2
            go_wp2_with (first | ((with_reducible refine cs.mono ?_); rintro e w6 ⟨n, rfl, rfl⟩) | ((with_reducible refine (cv _).mono ?_); rintro e w9 ⟨rfl, hb9⟩; have k9 := kk _ (by exact ⟨rfl, rfl, rfl, Nat.le_refl _, fun _ _ => rfl⟩) _ hb9; have c9 := c2h.out.keep k9; have gf9 := (fun j => c9.frozen j); obtain ⟨⟨g6, g0, g1, g2, g3, g4, g5⟩, g7⟩ := c9))
            refine bodyPost_ret (v := .tuple #[valV 3 false 0 Q [] none 0 0, .bool true, .int .i64 0]) (by simp only [results, Try.results18] <;> go_simp) rfl ⟨by rw [hR.out] <;> rfl, ?_⟩
            repeat (with_reducible refine back_set ?_ _ y5 _)
            exact hbr.trans (k9.mono hbr.size)

set_option maxRecDepth 8000 in
set_option maxHeartbeats 2000000 in
theorem rmean_c (A : Option Addr) (cap : Nat) (l : List Val) (w : World) (hp : Parts w A l) (hl : l.length ≤ 100) :
    Calls Try.prog 19 #[.slice A l.length cap] w (RMeanEnds (meanV l) w) := by
  obtain ⟨L, hLd⟩ : ∃ L, l.length = L := ⟨_, rfl⟩
  have hL := Lib.hid hLd
  rw [hLd] at hl ⊢
  clear hLd
  go_enter Try.func19, Try.ntmps19
  go_upto_region 2 with fail
  obtain ⟨w2, hw2⟩ : ∃ w2, w2 = w.alloc (.cells #[.int .i64 0, .bool false, .int .i64 0, .float .f64 0, .string (st []), .slice none 0 0] 27) := ⟨_, rfl⟩
  have B2 : Below w.heap.size w w2 := hw2 ▸ below_alloc w _
  have c2 : Cel w2 w.heap.size 0 false 0 0 [] none 0 0 := hw2 ▸ Cel.new w 0 false 0 0 [] none 0 0
  rw [show w.alloc (.cells #[.int .i64 0, .bool false, .int .i64 0, .float .f64 0, .string ⟨#[]⟩, .slice none 0 0] 27) = w2 from by rw [hw2] <;> rfl]
  clear hw2
  go_wp2_with fail
  go_loopw [5, 6] (fun a5 a6 wr => ∃ (i f : Nat), a6 = .int .i64 i ∧ a5 = .float .f64 f ∧ i ≤ L ∧ Hid ((l.take i).all isNum = true) ∧ Hid (canon f = sumTo (flsV l) i) ∧ Cel wr w.heap.size 0 false 0 0 [] none 0 0 ∧ Below w.heap.size w wr) (fun _ a _ => L - (intOf a).toNat)
  case atStart => exact ⟨0, 0, rfl, rfl, Nat.zero_le _, (show Hid (([] : List Val).all isNum = true) from rfl), canon_num (by decide), c2, B2⟩
  case round =>
    clear c2 B2
    obtain ⟨i, F, rfl, rfl, hi, hall, hF, c2, hbr⟩ := hrel
    have hlt2 := c2.lt
    by_cases hil : i < L
    · have hil' : (i : Int) < L := by omega
      obtain ⟨x, hx0⟩ : ∃ x, l[i]? = some x := ⟨l[i]'(by rw [hL.out]; exact hil), by simp⟩
      obtain ⟨ad, k, b, n, f, s, B, len, c, rfl, hx, hat⟩ := hp i x hx0
      have hatk := hat.keep hbr
      obtain ⟨q6, q0, q1, q2, q3, q4, q5⟩ := hatk
      have wi : IntKind.i64.wrap ((i : Int) + 1) = (i : Int) + 1 := by rw [wrap_i64]; omega
      obtain ⟨A0, cp, he, _, hn, _⟩ := hx.open
      simp at he
      obtain ⟨rfl, rfl, rfl, rfl, rfl, rfl, rfl, rfl⟩ := he
      have cn := fun wx => rfnum_c x B x.l.length c wx
      have cf := fun h wx => rflo_c x h B x.l.length c wx
      have hath := Lib.hid (hat.keep hbr)
      have hxh := Lib.hid hx0
      clear hx hat hp hx0
      generalize hnx : isNum x = N at *
      have hNx := Lib.hid hnx
      clear hnx
      cases N
      · go_upto_region 6 with ((with_reducible refine (cn _).mono ?_); rintro e w5 ⟨rfl, hb5⟩)
        have B5 := hbr.trans (hb5.mono hbr.size)
        have c5 := c2.keep hb5
        have gf := fun j => c5.frozen j
        obtain ⟨⟨g6, g0, g1, g2, g3, g4, g5⟩, g7⟩ := c5
        have hres : meanV l = (noV, false, 190) := by unfold meanV; rw [all_no hxh.out hNx.out]; rfl
        have hR := Lib.hid hres
        have y5 : w.heap.size ≤ w.heap.size := Nat.le_refl _
        clear hres cn cf
        go_wp2_with fail
        refine bodyPost_ret (v := .tuple #[valV 0 false 0 0 [] none 0 0, .bool false, .int .i64 190]) (by simp only [results, Try.results19] <;> go_simp) rfl ⟨noV, by rw [hR.out] <;> rfl, noV_flat, by rw [hR.out]; exact sameV_self _, ?_⟩
        repeat (with_reducible refine back_set ?_ _ y5 _)
        exact B5
      · go_upto_region 7 with ((with_reducible refine (cn _).mono ?_); rintro e w5 ⟨rfl, hb5⟩)
        obtain ⟨q6, q0, q1, q2, q3, q4, q5⟩ := hath.out.keep hb5
        have B5 := hbr.trans (hb5.mono hbr.size)
        have c5 := c2.keep hb5
        have cf5 := cf trivial w5
        obtain ⟨fx, hfx0⟩ : ∃ fx, floV x = fx := ⟨_, rfl⟩
        rw [hfx0] at cf5
        have hfx := Lib.hid hfx0
        have hs : addC F fx = sumTo (flsV l) (i + 1) := by
          show _ = addC (sumTo (flsV l) i) ((flsV l).getD i 0)
          rw [← hF.out, addC_canon, fls_get hxh.out, hfx0]
        have Hs := Lib.hid hs
        clear hfx0 cf cn hs c2 hbr hath
        cases hb : floatBits .add .f64 F fx with
        | none =>
          have hrun := fun (w : World) (t : TypeId) => run_float_nan (P := Try.prog) w .add (.inl rfl) t F fx hb
          have Ha : Hid (addC F fx = 9221120237041090561) := by unfold addC; rw [hb]; rfl
          clear hb
          go_wp2_with ((with_reducible refine cf5.mono ?_); rintro e w6 ⟨rfl, hb6⟩)
          refine ⟨⟨i + 1, nanAns w6 F fx, rfl, rfl, hil, all_take hxh.out hall.out hNx.out, ?_, (c5.keep hb6).keep (below_drew w6), (B5.trans (hb6.mono B5.size)).trans ((below_drew w6).mono (B5.trans (hb6.mono B5.size)).size)⟩, by simp [intOf]; omega⟩
          show _ = _
          rw [← Hs.out, Ha.out]
          exact canon_nan (nanAns_isNaN _ _ _).1
        | some r =>
          have hrun := fun (w : World) (t : TypeId) => run_float_arith (P := Try.prog) w .add t .f64 F fx r hb
          have Ha : Hid (addC F fx = canon r) := by unfold addC; rw [hb]; rfl
          clear hb
          go_wp2_with ((with_reducible refine cf5.mono ?_); rintro e w6 ⟨rfl, hb6⟩)
          refine ⟨⟨i + 1, r, rfl, rfl, hil, all_take hxh.out hall.out hNx.out, ?_, c5.keep hb6, B5.trans (hb6.mono B5.size)⟩, by simp [intOf]; omega⟩
          show _ = _
          rw [← Hs.out, Ha.out]
    · have hil' : ¬ (i : Int) < L := by omega
      have hiL : i = L := by omega
      subst hiL
      have hall' : l.all isNum = true := by
        have h := hall.out
        rwa [List.take_of_length_le (by rw [hL.out]; omega)] at h
      have gf := fun j => c2.frozen j
      have c2h := Lib.hid c2
      have y5 : w.heap.size ≤ w.heap.size := Nat.le_refl _
      clear hp hall
      obtain ⟨⟨g6, g0, g1, g2, g3, g4, g5⟩, g7⟩ := c2
      rcases Nat.eq_zero_or_pos i with hz | hz
      · have hres : meanV l = (noV, false, 0) := by
          unfold meanV
          rw [hall', hL.out, hz]
          rfl
        have hR := Lib.hid hres
        clear hres hall'
        subst hz
        go_wp2_with fail
        refine bodyPost_ret (v := .tuple #[valV 0 false 0 0 [] none 0 0, .bool false, .int .i64 0]) (by simp only [results, Try.results19] <;> go_simp) rfl ⟨noV, by rw [hR.out] <;> rfl, noV_flat, by rw [hR.out]; exact sameV_self _, ?_⟩
        repeat (with_reducible refine back_set ?_ _ y5 _)
        exact hbr
      · have hres : meanV l = (floV1 (opC .quo (sumTo (flsV l) i) (floatOfInt .f64 (i : Nat))), true, 0) := by
          unfold meanV
          rw [hall', hL.out, if_neg (by decide), if_neg (by omega)]
        have hne : ((i : Int) == 0) = false := by simp; omega
        rw [← hF.out, opC_quo_canon] at hres
        have hR := Lib.hid hres
        clear hres hall'
        obtain ⟨Q, hQ⟩ : ∃ Q, opC .quo F (floatOfInt .f64 (i : Nat)) = Q := ⟨_, rfl⟩
        have hcq : canon Q = Q := by rw [← hQ]; exact opC_canon _ _ _
        rw [hQ] at hR
        have fin : ∀ r w', canon r = Q → U64 r → Below w.heap.size w w' → RMeanEnds (meanV l) w (.returned (.tuple #[valV 3 false 0 r [] none 0 0, .bool true, .int .i64 0])) w' := fun r w' h1 h2 h3 => ⟨floV1 r, by rw [hR.out] <;> rfl, floV_flat h2, by rw [hR.out]; simp [sameV, sameVL, h1, hcq], h3⟩
        have fin := Lib.hid fin
        clear hcq
        cases hb : floatBits .quo .f64 F (floatOfInt .f64 (i : Nat)) with
        | none =>
          have hrun := fun (w : World) (t : TypeId) => run_float_nan (P := Try.prog) w .quo (.inr (.inr (.inr rfl))) t F (floatOfInt .f64 (i : Nat)) hb
          have hQ2 : Q = 9221120237041090561 := by rw [← hQ]; unfold opC; rw [hb]
          have hQ2 := Lib.hid hQ2
          clear hb hQ
          go_wp2_with fail
          refine bodyPost_ret (v := .tuple #[valV 3 false 0 (nanAns wr F (floatOfInt .f64 (i : Nat))) [] none 0 0, .bool true, .int .i64 0]) (by simp only [results, Try.results19] <;> go_simp) rfl (fin.out _ _ (by rw [hQ2.out]; exact canon_nan (nanAns_isNaN _ _ _).1) (nanAns_isNaN _ _ _).2 ?_)
          refine back_drew ?_
          repeat (with_reducible refine back_set ?_ _ y5 _)
          exact hbr
        | some r =>
          have hrun := fun (w : World) (t : TypeId) => run_float_arith (P := Try.prog) w .quo t .f64 F (floatOfInt .f64 (i : Nat)) r hb
          have hQ2 : canon r = Q := by rw [← hQ]; unfold opC; rw [hb]
          have hu := u64_some hb
          have hQ2 := Lib.hid hQ2
          have hu := Lib.hid hu
          clear hb hQ
          go_wp2_with fail
          refine bodyPost_ret (v := .tuple #[valV 3 false 0 r [] none 0 0, .bool true, .int .i64 0]) (by simp only [results, Try.results19] <;> go_simp) rfl (fin.out _ _ hQ2.out hu.out ?_)
          repeat (with_reducible refine back_set ?_ _ y5 _)
          exact hbr
end Go.Proofs.Ytipjelkdbbhcpaa
