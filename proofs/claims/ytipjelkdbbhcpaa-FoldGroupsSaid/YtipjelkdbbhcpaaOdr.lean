
/-
  fold.Order of rows of one value each.
-/
import Derived.Test.YtipjelkdbbhcpaaSrt
import Derived.Test.YtipjelkdbbhcpaaValR
set_option linter.unusedSimpArgs false
set_option linter.unusedVariables false
namespace Go.Proofs.Ytipjelkdbbhcpaa
open Go.RowKit Go.Deep

/-- rows of one value each -/
structure RowsV (w : World) (R : Nat) (vs : List Val) : Prop where
  row : ∀ i x, vs[i]? = some x → ∃ B cap, w.cell? ⟨R, i, none⟩ = some (.slice B 1 cap) ∧ Parts w B [x] ∧ 1 ≤ cap ∧ cap ≤ maxLen
  lt : R < w.heap.size
theorem RowsV.keep {w w' : World} {R : Nat} {vs : List Val} (h : RowsV w R vs) (hb : Below w.heap.size w w') : RowsV w' R vs :=
  ⟨fun i x hx => by
    obtain ⟨B, cap, h1, h2, h3, h4⟩ := h.row i x hx
    exact ⟨B, cap, (hb.cell (p := ⟨R, i, none⟩) h.lt).trans h1, h2.keep hb, h3, h4⟩, Nat.lt_of_lt_of_le h.lt hb.size⟩
/-- which are turned: none; or the first one is not -/
inductive Down (w : World) : Value → Bool → Prop
  | no : Down w (.slice none 0 0) false
  | one (Q : Nat) (h : w.cell? ⟨Q, 0, none⟩ = some (.bool false)) (hq : Q < w.heap.size) : Down w (.slice (some ⟨Q, 0, none⟩) 1 1) true
theorem Down.keep {w w' : World} {u : Value} {d : Bool} (h : Down w u d) (hb : Below w.heap.size w w') : Down w' u d := by
  cases h with
  | no => exact .no
  | one Q h hq => exact .one Q ((hb.cell (p := ⟨Q, 0, none⟩) hq).trans h) (Nat.lt_of_lt_of_le hq hb.size)
def ordC (dn : Bool) (vs : List Val) (a b : Nat) : Int := if dn then cmpV (vs.getD a default) (vs.getD b default) else 0
theorem getD_at {vs : List Val} {a : Nat} (h : a < vs.length) : vs[a]? = some (vs.getD a default) := by
  rw [List.getD_eq_getElem?_getD, List.getElem?_eq_getElem h]
  rfl
set_option maxRecDepth 8000 in
set_option maxHeartbeats 2000000 in
theorem order1_c (vs : List Val) (R cap bd br : Nat) (du : Value) (dn : Bool) (a b : Nat) (ha : a < vs.length) (hb : b < vs.length) (w : World) (hr : RowsV w R vs) (hd : Down w du dn) (h1 : w.cell? ⟨br, 0, none⟩ = some (.slice (some ⟨R, 0, none⟩) vs.length cap)) (h2 : w.cell? ⟨bd, 0, none⟩ = some du) (hcap : vs.length ≤ cap) (hmax : vs.length ≤ 20) :
    Calls Try.prog 32 #[.int .i64 (a : Nat), .int .i64 (b : Nat), .pointer (some ⟨bd, 0, none⟩), .pointer (some ⟨br, 0, none⟩)] w fun e w' => e = .returned (.int .i64 (ordC dn vs a b)) ∧ Below w.heap.size w w' := by
  have l1 := cell_lt' h1
  have l2 := cell_lt' h2
  obtain ⟨Ba, ca, a1, a2, a3, a4⟩ := hr.row a _ (getD_at ha)
  obtain ⟨Bb, cb, b1, b2, b3, b4⟩ := hr.row b _ (getD_at hb)
  have lR := hr.lt
  clear hr
  obtain ⟨adA, ka, ba, na, fa, sa, CA, la, ca', rfl, hxa, hata⟩ := a2 0 _ rfl
  obtain ⟨adB, kb, bb, nb, fb, sb, CB, lb, cb', rfl, hxb, hatb⟩ := b2 0 _ rfl
  have e0 : adA.add (0 * 6) = adA := by simp [Addr.add]
  have e1 : adB.add (0 * 6) = adB := by simp [Addr.add]
  rw [e0] at hata
  rw [e1] at hatb
  have ha' : (a : Int) < vs.length := by omega
  have hb' : (b : Int) < vs.length := by omega
  have cc : ∀ p : In w, Calls Try.prog 33 #[valV ka ba na fa sa CA la ca', valV kb bb nb fb sb CB lb cb'] p.w fun e w' => e = .returned (.int .i64 (cmpV (vs.getD a default) (vs.getD b default))) ∧ Below p.w.heap.size p.w w' := fun p => cmpv_c _ _ _ _ p.w (hxa.keep p.h) (hxb.keep p.h)
  have lA := hata.lt
  have lB := hatb.lt
  obtain ⟨q6, q0, q1, q2, q3, q4, q5⟩ := hata
  obtain ⟨s6, s0, s1, s2, s3, s4, s5⟩ := hatb
  have hord : ordC dn vs a b = if dn then cmpV (vs.getD a default) (vs.getD b default) else 0 := rfl
  have hO := Lib.hid hord
  clear hord hxa hxb a2 b2 e0 e1
  generalize cmpV (vs.getD a default) (vs.getD b default) = C at *
  generalize ordC dn vs a b = O at *
  generalize vs.length = L at *
  cases hd with
  | no =>
    have hO' : O = 0 := hO.out
    clear cc
    go_enter Try.func32, Try.ntmps32
    go_wp2_with fail
    go_loopw [11] (fun a11 wr => a11 = .int .i64 0 ∧ wr = w) (fun _ _ => 0)
    case atStart => exact ⟨rfl, rfl⟩
    case round =>
      obtain ⟨rfl, rfl⟩ := hrel
      go_wp2_with fail
      go_ret
      exact ⟨ret_int hO'.symm, Below.refl _ _⟩
  | one Q hq lQ =>
    have hO' : O = C := hO.out
    subst hO'
    go_enter Try.func32, Try.ntmps32
    go_wp2_with fail
    go_loopw [11] (fun a11 wr => (a11 = .int .i64 0 ∧ wr = w) ∨ (a11 = .int .i64 1 ∧ Hid (O = 0) ∧ Below w.heap.size w wr)) (fun a _ => 2 - (intOf a).toNat)
    case atStart => exact .inl ⟨rfl, rfl⟩
    case round =>
      rcases hrel with ⟨rfl, rfl⟩ | ⟨rfl, h0, hbr⟩
      · by_cases hz : O = 0
        · have hz' : (O != 0) = false := by simp [hz]
          have hzh := Lib.hid hz
          clear hz
          go_upto_region 5 with fail
          (refine wp_region_flow [] (by kernel_rfl) (by kernel_rfl) ?_; (repeat (((with_reducible refine wpFlow_steps ?_); intro K hK; go_simp; first | (with_reducible refine hK _ ?_; clear hK K) | (apply Exists.intro; (with_reducible refine ⟨fun _ => ⟨?_, _, rfl⟩, hK _ ?_⟩); (· exact rfl); clear hK K) | (apply Exists.intro; (with_reducible refine ⟨fun _ => ⟨_, rfl⟩, hK _ ?_⟩); clear hK K) | (apply Exists.intro; (with_reducible refine ⟨fun _ => ?_, hK _ ?_⟩); (· (with_reducible (first | exact cc _))); clear hK K)))); (refine wpFlow_nil ?_; rintro w1 ⟨q0, hq0⟩; have hb := In.h q0; rw [← hq0] at hb; clear hq0 q0; (first | ((with_reducible obtain ⟨p, hw''⟩ := In.of2 p hb); subst hw'') | (obtain ⟨p, hw''⟩ := In.of hb; subst hw'')); go_simp; intros))
          have bp := p.h
          have hz2 := hzh.out
          go_wp2_with fail
          exact ⟨.inr ⟨rfl, hzh, bp⟩, by simp [intOf]⟩
        · have hz' : (O != 0) = true := by simpa using hz
          go_upto_region 5 with fail
          (refine wp_region_flow [] (by kernel_rfl) (by kernel_rfl) ?_; (repeat (((with_reducible refine wpFlow_steps ?_); intro K hK; go_simp; first | (with_reducible refine hK _ ?_; clear hK K) | (apply Exists.intro; (with_reducible refine ⟨fun _ => ⟨?_, _, rfl⟩, hK _ ?_⟩); (· exact rfl); clear hK K) | (apply Exists.intro; (with_reducible refine ⟨fun _ => ⟨_, rfl⟩, hK _ ?_⟩); clear hK K) | (apply Exists.intro; (with_reducible refine ⟨fun _ => ?_, hK _ ?_⟩); (· (with_reducible (first | exact cc _))); clear hK K)))); (refine wpFlow_nil ?_; rintro w1 ⟨q0, hq0⟩; have hb := In.h q0; rw [← hq0] at hb; clear hq0 q0; (first | ((with_reducible obtain ⟨p, hw''⟩ := In.of2 p hb); subst hw'') | (obtain ⟨p, hw''⟩ := In.of hb; subst hw'')); go_simp; intros))
          have bp := p.h
          go_wp2_with fail
          go_ret
          exact ⟨rfl, bp⟩
      · clear cc
        go_wp2_with fail
        go_ret
        exact ⟨ret_int h0.out.symm, hbr⟩

def OrderEnds (vs : List Val) (dn : Bool) (w : World) (e : Ending) (w' : World) : Prop := ∃ D, e = .returned (.slice (some ⟨D, 0, none⟩) vs.length vs.length) ∧ IntRow w' D (sortV (ltOf (ordC dn vs)) (List.range vs.length)) ∧ Below w.heap.size w w'
theorem Try.info3 : (Try.prog.info? 3).map (fun i => (i.zero, i.size, i.bytes)) = some (some (.int .i64 0), 1, 8) := by kernel_rfl
def fillTo (n i : Nat) : List Nat := List.range i ++ List.replicate (n - i) 0
theorem fillTo_len {n i : Nat} (h : i ≤ n) : (fillTo n i).length = n := by simp [fillTo]; omega
theorem fillTo_next {n i : Nat} (h : i < n) : (fillTo n i).set i i = fillTo n (i + 1) := by
  apply List.ext_getElem?
  intro k
  unfold fillTo
  rcases Nat.lt_trichotomy k i with hk | hk | hk
  · rw [List.getElem?_set_ne (by omega), List.getElem?_append_left (by simpa using hk), List.getElem?_append_left (by simp; omega)]
    simp [hk, Nat.lt_succ_of_lt hk]
  · subst hk
    rw [List.getElem?_set_self (by simp; omega), List.getElem?_append_left (by simp)]
    simp
  · rw [List.getElem?_set_ne (by omega), List.getElem?_append_right (by simp; omega), List.getElem?_append_right (by simp; omega)]
    simp only [List.length_range, List.getElem?_replicate]
    have : (k - i < n - i) ↔ (k - (i + 1) < n - (i + 1)) := by omega
    simp only [this]
theorem fillTo_end (n : Nat) : fillTo n n = List.range n := by simp [fillTo]
set_option maxRecDepth 8000 in
set_option maxHeartbeats 2000000 in
theorem order_c (vs : List Val) (R cap : Nat) (du : Value) (dn : Bool) (w : World) (hr : RowsV w R vs) (hd : Down w du dn) (hcap : vs.length ≤ cap) (hmax : vs.length ≤ 20) :
    Calls Try.prog 10 #[.slice (some ⟨R, 0, none⟩) vs.length cap, du] w (OrderEnds vs dn w) := by
  obtain ⟨dA, dl, dc, hdu⟩ : ∃ dA dl dc, du = .slice dA dl dc := by cases hd <;> exact ⟨_, _, _, rfl⟩
  subst hdu
  obtain ⟨w1, hw1⟩ : ∃ w1, w1 = w.alloc (.cells #[.slice (some ⟨R, 0, none⟩) vs.length cap] 24) := ⟨_, rfl⟩
  obtain ⟨w2, hw2⟩ : ∃ w2, w2 = w1.alloc (.cells #[.slice dA dl dc] 30) := ⟨_, rfl⟩
  have s1 : w1.heap.size = w.heap.size + 1 := hw1 ▸ alloc_grows _ _ rfl
  have s2 : w2.heap.size = w.heap.size + 1 + 1 := hw2 ▸ alloc_grows _ _ s1
  have b2 : Below w.heap.size w w2 := hw2 ▸ hw1 ▸ (below_alloc w _).alloc (by simp) _
  have z1 := Lib.hid (hw2 ▸ alloc_past _ (hw1 ▸ alloc_here w _) : w2.heap[w.heap.size]? = _)
  have z2 := Lib.hid (hw2 ▸ s1 ▸ alloc_here w1 _ : w2.heap[w.heap.size + 1]? = _)
  have hwa : (w.alloc (.cells #[.slice (some ⟨R, 0, none⟩) vs.length cap] 24)).alloc (.cells #[.slice dA dl dc] 30) = w2 := by rw [hw2, hw1]
  clear hw1 hw2 s1
  have hmk := run_make_row' (P := Try.prog) 28 3 (.int .i64 0) 8 Try.underlying28 Try.info3 rfl .i64 .i64 vs.length (by omega) (by omega) w2
  rw [s2] at hmk
  have hI0 : IntRow (w2.alloc (.cells (madeCells #[.int .i64 0] vs.length) 3)) w2.heap.size (fillTo vs.length 0) := by
    have h := World.rowIs_made w2 (.int .i64 0) vs.length 3
    obtain ⟨c, h1, h2, h3⟩ := h
    refine ⟨c, h1, by rw [h2, fillTo_len (Nat.zero_le _)], fun i hi => ?_⟩
    rw [fillTo_len (Nat.zero_le _)] at hi
    rw [h3 i hi]
    simp [intsF, fillTo]
    rw [List.getElem?_replicate]
    simp [hi]
  have k3 := below_alloc w2 (.cells (madeCells #[.int .i64 0] vs.length) 3)
  have q1 := cell_of z1.out 0
  have q2 := cell_of z2.out 0
  have l1 := (Array.getElem?_eq_some_iff.1 z1.out).1
  have l2 := (Array.getElem?_eq_some_iff.1 z2.out).1
  obtain ⟨L, hL⟩ : ∃ L, vs.length = L := ⟨_, rfl⟩
  have hvs := Lib.hid hL
  have hfinal : OrderEnds vs dn w = OrderEnds vs dn w := rfl
  rw [hL] at hmk hI0 k3 hcap hmax hwa q1 ⊢
  clear hL hfinal
  go_enter Try.func10, Try.ntmps10
  go_upto_region 2 with fail
  generalize w2.alloc (.cells (madeCells #[.int .i64 0] L) 3) = w3 at *
  clear hmk hwa q1 q2 l1 l2
  rw [s2] at hI0
  go_wp2_with fail
  go_loopw [12] (fun a12 wr => ∃ i : Nat, a12 = .int .i64 i ∧ i ≤ L ∧ IntRow wr (w.heap.size + 1 + 1) (fillTo L i) ∧ w3.grownBy wr (some (w.heap.size + 1 + 1))) (fun a _ => L - (intOf a).toNat)
  case atStart => exact ⟨0, rfl, Nat.zero_le _, hI0, grown_refl _ _⟩
  case round =>
    clear hI0
    obtain ⟨i, rfl, hi, hI, hg⟩ := hrel
    have hlen := fillTo_len hi
    by_cases hil : i < L
    · have hil' : (i : Int) < L := by omega
      have cx := hI.cell (i := i) (by omega)
      have fx := fun j => hI.frozen j
      have lx := hI.lt
      have nx := (hI.set (i := i) (by omega) i).eq (fillTo_next hil)
      have ng := grown_set hg i (.int .i64 (i : Nat))
      have nx := Lib.hid nx
      have ng := Lib.hid ng
      have wi : IntKind.i64.wrap ((i : Int) + 1) = (i : Int) + 1 := by rw [wrap_i64]; omega
      clear hI hg hlen
      go_wp2_with fail
      exact ⟨⟨i + 1, rfl, hil, nx.out, ng.out⟩, by simp [intOf]; omega⟩
    · have hil' : ¬ (i : Int) < L := by omega
      have hI := hI.eq (show fillTo L i = List.range L by rw [show i = L by omega, fillTo_end])
      have k0 : Below w2.heap.size w2 wr := k3.grown hg k3.size fun k hk => by cases hk; omega
      have hb : ∀ wx, wr.grownBy wx (some (w.heap.size + 1 + 1)) → Below w2.heap.size w2 wx := fun wx h => k0.grown h k0.size fun k hk => by cases hk; omega
      have hc : Cmps wr (w.heap.size + 1 + 1) (w.heap.size + 1) w.heap.size L (ordC dn vs) := ⟨fun wx h a b ha hbb => by
        have hbw := hb wx h
        have hw := b2.trans (hbw.mono b2.size)
        have e1 := (hbw.block _ (Array.getElem?_eq_some_iff.1 z1.out).1).trans z1.out
        have e2 := (hbw.block _ (Array.getElem?_eq_some_iff.1 z2.out).1).trans z2.out
        have hL := hvs.out
        exact order1_c vs R cap (w.heap.size + 1) w.heap.size (.slice dA dl dc) dn a b (by omega) (by omega) wx (hr.keep hw) (hd.keep hw) (cell_of e1 0) (cell_of e2 0) (by omega) (by omega)⟩
      have cs := sorts_c (w.heap.size + 1 + 1) (w.heap.size + 1) w.heap.size L (ordC dn vs) (List.range L) wr hI (by simp; omega) (fun x hx => by simpa using hx) hc
      rw [List.length_range] at cs
      have fin : ∀ w', IntRow w' (w.heap.size + 1 + 1) (sortV (ltOf (ordC dn vs)) (List.range L)) → wr.grownBy w' (some (w.heap.size + 1 + 1)) → OrderEnds vs dn w (.returned (.slice (some ⟨w.heap.size + 1 + 1, 0, none⟩) L L)) w' := fun w' h1 h2 => by
        have hL := hvs.out
        exact ⟨w.heap.size + 1 + 1, by rw [hL], by rw [hL]; exact h1, b2.trans ((hb w' h2).mono b2.size)⟩
      clear hI hg hc hb k0 k3 hlen
      go_wp2_with ((with_reducible refine cs.mono ?_); rintro e w5 ⟨rfl, h1, h2⟩)
      go_ret
      exact fin w5 h1 h2
end Go.Proofs.Ytipjelkdbbhcpaa
