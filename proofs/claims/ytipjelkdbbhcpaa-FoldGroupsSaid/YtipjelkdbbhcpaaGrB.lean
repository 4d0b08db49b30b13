
/-
  Rows of places; which keys come first: Dedup, and the reference's.
-/
import Derived.Test.YtipjelkdbbhcpaaGrA
import Derived.Test.YtipjelkdbbhcpaaFdK
import Derived.Test.YtipjelkdbbhcpaaValR
import Derived.Test.YtipjelkdbbhcpaaVrw
import Derived.Test.YtipjelkdbbhcpaaApp
set_option linter.unusedSimpArgs false
set_option linter.unusedVariables false
namespace Go.Proofs.Ytipjelkdbbhcpaa
open Go.RowKit Go.Deep

abbrev intC (pl : List Nat) : List Value := pl.map fun (x : Nat) => Value.int .i64 (x : Int)
/-- places at their addresses -/
def IntsAt (w : World) (R : Option Addr) (pl : List Nat) : Prop := ∀ (j x : Nat), pl[j]? = some x → ∃ ad, R = some ad ∧ (ad.add j).block < w.heap.size ∧ w.cell? (ad.add j) = some (.int .i64 (x : Int))
theorem IntsAt.keep {w w' : World} {R : Option Addr} {pl : List Nat} (h : IntsAt w R pl) (hb : Below w.heap.size w w') : IntsAt w' R pl := fun j x hx => by
  obtain ⟨ad, h1, h2, h3⟩ := h j x hx
  exact ⟨ad, h1, Nat.lt_of_lt_of_le h2 hb.size, (hb.cell h2).trans h3⟩
theorem IntsAt.ofOwn {w : World} {base n : Nat} {v : Value} {pl : List Nat} (h : w.ownsRow base 3 1 v n (intC pl)) (hn : n = pl.length) : ∃ R cap, v = .slice R pl.length cap ∧ IntsAt w R pl ∧ pl.length ≤ cap := by
  subst hn
  rcases h.2 with ⟨hv, hn⟩ | ⟨gb, cap, cur, hv, hbg, hc, hnc, hr⟩
  · refine ⟨none, 0, by rw [hv, hn], fun j x hx => ?_, by omega⟩
    rw [List.getElem?_eq_none (by omega)] at hx
    cases hx
  · subst hv
    refine ⟨some ⟨gb, 0, none⟩, cap, rfl, fun j x hx => ⟨_, rfl, ?_⟩, hnc⟩
    have hj := (List.getElem?_eq_some_iff.1 hx).1
    have e : (⟨gb, 0, none⟩ : Addr).add j = ⟨gb, j, none⟩ := by rw [insAdd, Nat.zero_add]
    rw [e]
    exact ⟨(Array.getElem?_eq_some_iff.1 hc).1, by rw [h.cellAt j (by simpa using hj), List.getElem?_map, hx]; rfl⟩
theorem Try.infoI3 : (Try.prog.info? 3).map (fun i => (i.zero, i.size, i.bytes)) = some (some (.int .i64 0), 1, 8) := by kernel_rfl
theorem int_one (x : Int) : ∀ u ∈ [Value.int .i64 x], u.oneCell' = true := fun u hu => by
  rw [List.mem_singleton.1 hu]
  rfl
theorem cell_new (w : World) (x : Int) (T : TypeId) : ∀ (j : Nat) (u : Value), [Value.int .i64 x][j]? = some u → (w.alloc (.cells #[.int .i64 x] T)).cell? ((⟨w.heap.size, 0, none⟩ : Addr).add j) = some u := fun j u hj => by
  rw [insAdd, Nat.zero_add, cell_of (alloc_here w _) j]
  simpa using hj
theorem intC_snoc (pl : List Nat) (x : Nat) : intC (pl ++ [x]) = intC pl ++ [.int .i64 (x : Int)] := by simp
set_option maxRecDepth 8000 in
theorem places_c (A B : Option Addr) (capA capB : Nat) (pl : List Nat) (w : World) (ha : IntsAt w A pl) (hb : IntsAt w B pl) (hl : pl.length ≤ 1000) :
    Calls Try.prog 27 #[.slice A pl.length capA, .slice B pl.length capB] w fun e w' => e = .returned (.bool true) ∧ Below w.heap.size w w' := by
  go_enter Try.func27, Try.ntmps27
  go_wp2_with fail
  go_loopw [5] (fun a5 wr => ∃ i : Nat, a5 = .int .i64 i ∧ i ≤ pl.length ∧ Below w.heap.size w wr) (fun a _ => pl.length - (intOf a).toNat)
  case atStart => exact ⟨0, rfl, Nat.zero_le _, Below.refl _ _⟩
  case round =>
    obtain ⟨i, rfl, hi, hbr⟩ := hrel
    by_cases hil : i < pl.length
    · have hil' : (i : Int) < pl.length := by omega
      have hget : pl[i]? = some pl[i] := by simp
      obtain ⟨ad, rfl, q6, q0⟩ := (ha.keep hbr) i pl[i] hget
      obtain ⟨ad2, rfl, r6, r0⟩ := (hb.keep hbr) i pl[i] hget
      generalize pl[i] = x at *
      have w3 : IntKind.i64.wrap ((i : Int) + 1) = (i : Int) + 1 := by rw [wrap_i64]; omega
      clear hget ha hb
      go_upto_region 6 with fail
      (refine wp_region_flow [] (by kernel_rfl) (by kernel_rfl) ?_; (repeat (((with_reducible refine wpFlow_steps ?_); intro K hK; go_simp; first | (with_reducible refine hK _ ?_; clear hK K) | (apply Exists.intro; (with_reducible refine ⟨fun _ => ⟨?_, _, rfl⟩, hK _ ?_⟩); (· exact rfl); clear hK K) | (apply Exists.intro; (with_reducible refine ⟨fun _ => ⟨_, rfl⟩, hK _ ?_⟩); clear hK K) | (apply Exists.intro; (with_reducible refine ⟨fun _ => ?_, hK _ ?_⟩); (· (with_reducible (fail))); clear hK K)))); (refine wpFlow_nil ?_; rintro w1 ⟨q0, hq0⟩; have hb := In.h q0; rw [← hq0] at hb; clear hq0 q0; (first | ((with_reducible obtain ⟨p, hw''⟩ := In.of2 p hb); subst hw'') | (obtain ⟨p, hw''⟩ := In.of hb; subst hw'')); go_simp; intros))
      have hbz := hbr.trans (p.h.mono hbr.size)
      go_wp2_with fail
      exact ⟨⟨i + 1, rfl, hil, hbz⟩, by simp [intOf]; omega⟩
    · have hil' : ¬ (i : Int) < pl.length := by omega
      go_wp2_with fail
      go_ret
      exact ⟨rfl, hbr⟩
/-- places, returned -/
def IntsEnds (pl : List Nat) (w : World) (e : Ending) (w' : World) : Prop := ∃ R cap, e = .returned (.slice R pl.length cap) ∧ IntsAt w' R pl ∧ Below w.heap.size w w'
/-- whether all of the first t are unlike the i-th -/
def unl (l : List Val) (i t : Nat) : Bool := (List.range t).all fun j => !(cmpV (kAt l j) (kAt l i) == 0)
theorem unl_next (l : List Val) (i t : Nat) : unl l i (t + 1) = (unl l i t && !(cmpV (kAt l t) (kAt l i) == 0)) := by
  unfold unl
  rw [List.range_succ, List.all_append]
  simp
set_option maxRecDepth 8000 in
set_option maxHeartbeats 4000000 in
theorem rdedup_c (A : Option Addr) (cap : Nat) (l : List Val) (w : World) (hp : Parts w A l) (hl : l.length ≤ 100) :
    Calls Try.prog 29 #[.slice A l.length cap] w (IntsEnds (firsts l l.length) w) := by
  obtain ⟨i0, hi0, hz0, hz1, hz2⟩ := info_parts Try.infoI3
  obtain ⟨GOAL, hG⟩ : ∃ G, G = IntsEnds (firsts l l.length) w := ⟨_, rfl⟩
  rw [← hG]
  have hGo := Lib.hid hG
  clear hG
  go_enter Try.func29, Try.ntmps29
  go_upto_region 2 with fail
  obtain ⟨w3, hw3⟩ : ∃ w3, w3 = w.alloc (.cells #[] 3) := ⟨_, rfl⟩
  have own3 : Hid (w3.ownsRow w.heap.size 3 1 (.slice (some ⟨w.heap.size, 0, none⟩) 0 0) (firsts l 0).length (intC (firsts l 0))) := Lib.hid (hw3 ▸ ⟨rfl, .inr ⟨w.heap.size, 0, #[], rfl, Nat.le_refl _, alloc_here _ _, Nat.le_refl _, by unfold maxLen; omega, by simp, by simp [firsts]⟩⟩)
  have bel3 : Below w.heap.size w w3 := hw3 ▸ below_alloc w _
  rw [← hw3]
  clear hw3
  go_wp2_with fail
  go_loopw [3, 4] (fun a3 a4 wr => ∃ i : Nat, a4 = .int .i64 i ∧ i ≤ l.length ∧ Hid (wr.ownsRow w.heap.size 3 1 a3 (firsts l i).length (intC (firsts l i))) ∧ Below w.heap.size w wr) (fun _ a _ => l.length - (intOf a).toNat)
  case atStart => exact ⟨0, rfl, Nat.zero_le _, own3, bel3⟩
  case round =>
    clear own3 bel3
    obtain ⟨i, rfl, hi, hown, hbr⟩ := hrel
    have w3i : IntKind.i64.wrap ((i : Int) + 1) = (i : Int) + 1 := by rw [wrap_i64]; omega
    by_cases hil : i < l.length
    · have hil' : (i : Int) < l.length := by omega
      have hx := kAt_some hil
      obtain ⟨ad, kk, kb, kn, kf, ks, kB, klen, kc, hA, hkx, hkat⟩ := hp i _ hx
      subst hA
      have hkxr := hkx.keep hbr
      have hkatr := hkat.keep hbr
      have hbrs := hbr.size
      have hfl := firsts_len l i
      have hnx := Lib.hid (firsts_next l i)
      have hfi : Hid (isFirst l i = unl l i i) := Lib.hid rfl
      go_wp2_with fail
      go_loopw [5, 6] (fun a5 a6 wz => ∃ (t : Nat) (b : Bool), a6 = .int .i64 t ∧ a5 = .bool b ∧ t ≤ i ∧ Hid (b = unl l i t) ∧ Below wr.heap.size wr wz) (fun _ a _ => i - (intOf a).toNat)
      case atStart => exact ⟨0, true, rfl, rfl, Nat.zero_le _, Lib.hid (by simp [unl]), Below.refl _ _⟩
      case round =>
        obtain ⟨t, b, rfl, rfl, ht, hb, hbz⟩ := hrel
        have w3t : IntKind.i64.wrap ((t : Int) + 1) = (t : Int) + 1 := by rw [wrap_i64]; omega
        by_cases hti : t < i
        · have hti' : (t : Int) < i := by omega
          have htl : t < l.length := by omega
          have htl' : (t : Int) < l.length := by omega
          have hun := unl_next l i t
          rw [← hb.out] at hun
          cases b with
          | false =>
            have hun2 := Lib.hid hun.symm
            clear hun
            go_upto_region 9 with fail
            (refine wp_region_flow [] (by kernel_rfl) (by kernel_rfl) ?_; (repeat (((with_reducible refine wpFlow_steps ?_); intro K hK; go_simp; first | (with_reducible refine hK _ ?_; clear hK K) | (apply Exists.intro; (with_reducible refine ⟨fun _ => ⟨?_, _, rfl⟩, hK _ ?_⟩); (· exact rfl); clear hK K) | (apply Exists.intro; (with_reducible refine ⟨fun _ => ⟨_, rfl⟩, hK _ ?_⟩); clear hK K) | (apply Exists.intro; (with_reducible refine ⟨fun _ => ?_, hK _ ?_⟩); (· (with_reducible (fail))); clear hK K)))); (refine wpFlow_nil ?_; rintro w1 ⟨q0, hq0⟩; have hb := In.h q0; rw [← hq0] at hb; clear hq0 q0; (first | ((with_reducible obtain ⟨p, hw''⟩ := In.of2 p hb); subst hw'') | (obtain ⟨p, hw''⟩ := In.of hb; subst hw'')); go_simp; intros))
            have hb2 := hbz.trans (p.h.mono hbz.size)
            go_wp2_with fail
            exact ⟨⟨t + 1, false, by simp, rfl, hti, Lib.hid (by rw [← hun2.out]; rfl), hb2⟩, by simp [intOf]; omega⟩
          | true =>
            obtain ⟨ad2, ak, ab, an, aF, aS, aB, alen, ac, hA2, hax, haat⟩ := hp t _ (kAt_some htl)
            cases hA2
            obtain ⟨y6, y0, y1, y2, y3, y4, y5⟩ := hkatr.keep hbz
            obtain ⟨z6, z0, z1, z2, z3, z4, z5⟩ := (haat.keep hbr).keep hbz
            have cc : ∀ p : In wr, Calls Try.prog 12 #[valV ak ab an aF aS aB alen ac, valV kk kb kn kf ks kB klen kc] p.w fun e w' => e = .returned (.int .i64 (cmpV (kAt l t) (kAt l i))) ∧ Below p.w.heap.size p.w w' := fun p => rcmpv_c _ _ _ _ p.w (((hax.keep hbr).keep hbz).keep p.h) ((hkxr.keep hbz).keep p.h)
            generalize cmpV (kAt l t) (kAt l i) = C at *
            have hun2 := Lib.hid hun.symm
            clear hun hx hkx hkat hax haat
            go_upto_region 9 with fail
            (refine wp_region_flow [] (by kernel_rfl) (by kernel_rfl) ?_; (repeat (((with_reducible refine wpFlow_steps ?_); intro K hK; go_simp; first | (with_reducible refine hK _ ?_; clear hK K) | (apply Exists.intro; (with_reducible refine ⟨fun _ => ⟨?_, _, rfl⟩, hK _ ?_⟩); (· exact rfl); clear hK K) | (apply Exists.intro; (with_reducible refine ⟨fun _ => ⟨_, rfl⟩, hK _ ?_⟩); clear hK K) | (apply Exists.intro; (with_reducible refine ⟨fun _ => ?_, hK _ ?_⟩); (· (with_reducible (first | exact cc _))); clear hK K)))); (refine wpFlow_nil ?_; rintro w1 ⟨q0, hq0⟩; have hb := In.h q0; rw [← hq0] at hb; clear hq0 q0; (first | ((with_reducible obtain ⟨p, hw''⟩ := In.of2 p hb); subst hw'') | (obtain ⟨p, hw''⟩ := In.of hb; subst hw'')); go_simp; intros))
            have hb2 := hbz.trans (p.h.mono hbz.size)
            clear y6 y0 y1 y2 y3 y4 y5 z6 z0 z1 z2 z3 z4 z5 cc
            go_wp2_with fail
            exact ⟨⟨t + 1, _, by simp, rfl, hti, Lib.hid (by rw [← hun2.out]; simp; rfl), hb2⟩, by simp [intOf]; omega⟩
        · have hti' : ¬ (t : Int) < i := by omega
          obtain rfl : t = i := by omega
          have hbf : b = isFirst l t := by rw [hb.out, hfi.out]
          have hownz := Lib.hid (own_stays hown.out hbz)
          have hbwz := hbr.trans (hbz.mono hbrs)
          have hbwzs := hbwz.size
          cases b with
          | false =>
            have hst : firsts l (t + 1) = firsts l t := by rw [hnx.out, ← hbf]; simp
            have hst := Lib.hid hst
            clear hbf hx hkx hkat
            go_wp2_with fail
            exact ⟨⟨t + 1, by simp, hil, Lib.hid (by rw [hst.out]; exact hownz.out), hbwz⟩, by simp [intOf]; omega⟩
          | true =>
            have hst : firsts l (t + 1) = firsts l t ++ [t] := by rw [hnx.out, ← hbf]; simp
            have hst := Lib.hid hst
            clear hbf hx hkx hkat
            go_wp2_with (at_builtin; refine wpList_append_own _ rfl _ _ 28 rfl w.heap.size 3 i0 (.int .i64 0) 1 8 Try.underlying28 hi0 hz0 hz1 hz2 rfl (by decide) _ _ _ rfl (hownz.out.alloc _) ⟨wr.heap.size, 0, none⟩ 1 1 [.int .i64 (t : Int)] rfl rfl (cell_new wr _ _) (int_one _) (by unfold maxLen; omega) (by omega) (by simp; omega) ?_)
            intro v7 w7 own7 hgrow _
            have hb7 : Below w.heap.size w w7 := (hbwz.alloc hbwzs _).grown hgrow (by simp; omega) fun k hk => (hownz.out.lt k hk).1
            have own7 := Lib.hid own7
            clear hgrow
            go_wp2_with fail
            exact ⟨⟨t + 1, by simp, hil, Lib.hid (by rw [hst.out, intC_snoc, List.length_append]; exact own7.out), hb7⟩, by simp [intOf]; omega⟩
    · have e : i = l.length := by omega
      subst e
      have hil' : ¬ (l.length : Int) < l.length := by omega
      obtain ⟨R, rc, hv, hI, _⟩ := IntsAt.ofOwn hown.out rfl
      subst hv
      clear hown hp
      go_wp2_with fail
      rw [hGo.out]
      exact ⟨R, rc, rfl, hI, hbr⟩
/-- Dedup's closure over a variable -/
abbrev dedF (g : Nat) : Value := .func (.func 54) #[] #[.pointer (some ⟨g, 0, none⟩)]
set_option maxRecDepth 8000 in
theorem ded1_c (g : Nat) (x y : Val) (ak : Int) (ab : Bool) (an : Int) (aF : Nat) (aS : List UInt8) (aB : Option Addr) (alen ac : Nat) (kk : Int) (kb : Bool) (kn : Int) (kf : Nat) (ks : List UInt8) (kB : Option Addr) (klen kc : Nat) (w : World)
    (hx : Has w (valV ak ab an aF aS aB alen ac) x) (hy : Has w (valV kk kb kn kf ks kB klen kc) y) (hb : Box w g kk kb kn kf ks kB klen kc) :
    Calls Try.prog 54 #[valV ak ab an aF aS aB alen ac, .pointer (some ⟨g, 0, none⟩)] w fun e w' => e = .returned (.bool (cmpV x y == 0)) ∧ Below w.heap.size w w' := by
  have cs := fun w' (h : Below w.heap.size w w') => samev_c x y _ _ w' (hx.keep h) (hy.keep h)
  generalize (cmpV x y == 0) = R at *
  go_enter Try.func54, Try.ntmps54
  go_upto_region 1 with fail
  obtain ⟨w1, hw1⟩ : ∃ w1, w1 = w.alloc (.cells #[.int .i64 ak, .bool ab, .int .i64 an, .float .f64 aF, .string (st aS), .slice aB alen ac] 27) := ⟨_, rfl⟩
  have bk : Below w.heap.size w w1 := hw1 ▸ below_alloc w _
  obtain ⟨x6, x0, x1, x2, x3, x4, x5⟩ : Box w1 w.heap.size ak ab an aF aS aB alen ac := hw1 ▸ Box.new w ak ab an aF aS aB alen ac _
  obtain ⟨y6, y0, y1, y2, y3, y4, y5⟩ := hb.keep bk
  have c1 := cs w1 bk
  rw [← hw1]
  clear hw1 cs hx hy hb
  go_wp2_with ((with_reducible refine c1.mono ?_); rintro e w2 ⟨rfl, hb2⟩)
  go_ret
  exact ⟨rfl, bk.trans (hb2.mono bk.size)⟩
def IndexEnds2 (b : Bool) (w : World) (e : Ending) (w' : World) : Prop := ∃ r : Int, e = .returned (.int .i64 r) ∧ decide (0 ≤ r) = b ∧ Below w.heap.size w w'
def anyL (l : List Val) (y : Val) (t : Nat) : Bool := (List.range t).any fun j => cmpV (kAt l j) y == 0
theorem anyL_next (l : List Val) (y : Val) (t : Nat) : anyL l y (t + 1) = (anyL l y t || (cmpV (kAt l t) y == 0)) := by
  unfold anyL
  rw [List.range_succ, List.any_append]
  simp
theorem anyL_pre {l : List Val} {y : Val} {t n : Nat} (h : anyL l y t = true) (ht : t ≤ n) : anyL l y n = true := by
  unfold anyL at *
  rw [List.any_eq_true] at *
  obtain ⟨j, hj, h0⟩ := h
  exact ⟨j, by rw [List.mem_range] at *; omega, h0⟩
theorem anyL_first (l : List Val) (i : Nat) : isFirst l i = !anyL l (kAt l i) i := by
  unfold isFirst anyL
  rw [← List.not_any_eq_all_not]
set_option maxRecDepth 8000 in
set_option maxHeartbeats 4000000 in
theorem indexD_c (g n : Nat) (l : List Val) (y : Val) (A : Option Addr) (cap : Nat) (kk : Int) (kb : Bool) (kn : Int) (kf : Nat) (ks : List UInt8) (kB : Option Addr) (klen kc : Nat) (w : World)
    (hp : Parts w A l) (hn : n ≤ l.length) (hl : l.length ≤ 100) (hy : Has w (valV kk kb kn kf ks kB klen kc) y) (hb : Box w g kk kb kn kf ks kB klen kc) :
    Calls Try.prog 74 #[.slice A n cap, dedF g] w (IndexEnds2 (anyL l y n) w) := by
  obtain ⟨GOAL, hG⟩ : ∃ G, G = IndexEnds2 (anyL l y n) w := ⟨_, rfl⟩
  rw [← hG]
  have hGo := Lib.hid hG
  clear hG
  go_enter Try.func74, Try.ntmps74
  go_wp2_with fail
  go_loopw [8] (fun a8 wr => ∃ i : Nat, a8 = .int .i64 i ∧ i ≤ n ∧ Hid (anyL l y i = false) ∧ Below w.heap.size w wr) (fun a _ => n - (intOf a).toNat)
  case atStart => exact ⟨0, rfl, Nat.zero_le _, rfl, Below.refl _ _⟩
  case round =>
    obtain ⟨i, rfl, hi, hno, hbr⟩ := hrel
    by_cases hil : i < n
    · have hil' : (i : Int) < n := by omega
      have hill : i < l.length := by omega
      obtain ⟨ad, ak, ab, an, aF, aS, aB, alen, ac, rfl, hax, haat⟩ := hp i _ (kAt_some hill)
      obtain ⟨q6, q0, q1, q2, q3, q4, q5⟩ := haat.keep hbr
      have cs := ded1_c g (kAt l i) y ak ab an aF aS aB alen ac kk kb kn kf ks kB klen kc wr (hax.keep hbr) (hy.keep hbr) (hb.keep hbr)
      have wi : IntKind.i64.wrap ((i : Int) + 1) = (i : Int) + 1 := by rw [wrap_i64]; omega
      have hnx := anyL_next l y i
      rw [hno.out] at hnx
      clear hp hy hb haat hax
      cases he : (cmpV (kAt l i) y == 0)
      · rw [he] at cs hnx
        have hnx := Lib.hid hnx
        clear he
        go_wp2_with ((with_reducible refine cs.mono ?_); rintro e w2 ⟨rfl, hb2⟩)
        exact ⟨⟨i + 1, by simp, hil, Lib.hid (by rw [hnx.out]; rfl), hbr.trans (hb2.mono hbr.size)⟩, by simp [intOf]; omega⟩
      · rw [he] at cs hnx
        have hyes := Lib.hid (anyL_pre (t := i + 1) (n := n) (by rw [hnx]; rfl) hil)
        clear he hnx
        go_wp2_with ((with_reducible refine cs.mono ?_); rintro e w2 ⟨rfl, hb2⟩)
        rw [hGo.out]
        exact ⟨_, rfl, by rw [hyes.out]; simp, hbr.trans (hb2.mono hbr.size)⟩
    · have hil' : ¬ (i : Int) < n := by omega
      obtain rfl : i = n := by omega
      clear hp hy hb
      go_wp2_with fail
      rw [hGo.out]
      exact ⟨_, rfl, by rw [hno.out]; rfl, hbr⟩
set_option maxRecDepth 8000 in
theorem containsD_c (g n : Nat) (l : List Val) (y : Val) (A : Option Addr) (cap : Nat) (kk : Int) (kb : Bool) (kn : Int) (kf : Nat) (ks : List UInt8) (kB : Option Addr) (klen kc : Nat) (w : World)
    (hp : Parts w A l) (hn : n ≤ l.length) (hl : l.length ≤ 100) (hy : Has w (valV kk kb kn kf ks kB klen kc) y) (hb : Box w g kk kb kn kf ks kB klen kc) :
    Calls Try.prog 53 #[.slice A n cap, dedF g] w fun e w' => e = .returned (.bool (anyL l y n)) ∧ Below w.heap.size w w' := by
  have cs := indexD_c g n l y A cap kk kb kn kf ks kB klen kc w hp hn hl hy hb
  unfold IndexEnds2 at cs
  clear hp hy hb
  generalize anyL l y n = r0 at *
  go_enter Try.func53, Try.ntmps53
  go_wp2_with ((with_reducible refine cs.mono ?_); rintro e w2 ⟨r, rfl, hd, hb2⟩)
  go_ret
  exact ⟨rfl, hb2⟩
set_option maxRecDepth 8000 in
set_option maxHeartbeats 4000000 in
theorem dedup_c (A : Option Addr) (cap : Nat) (l : List Val) (w : World) (hp : Parts w A l) (hl : l.length ≤ 100) (hlc : l.length ≤ cap) :
    Calls Try.prog 28 #[.slice A l.length cap] w (IntsEnds (firsts l l.length) w) := by
  obtain ⟨i0, hi0, hz0, hz1, hz2⟩ := info_parts Try.infoI3
  obtain ⟨GOAL, hG⟩ : ∃ G, G = IntsEnds (firsts l l.length) w := ⟨_, rfl⟩
  rw [← hG]
  have hGo := Lib.hid hG
  clear hG
  go_enter Try.func28, Try.ntmps28
  go_wp2_with fail
  go_loopw [3, 8] (fun a3 a8 wr => ∃ i : Nat, a8 = .int .i64 i ∧ i ≤ l.length ∧ Hid (wr.ownsRow w.heap.size 3 1 a3 (firsts l i).length (intC (firsts l i))) ∧ Below w.heap.size w wr) (fun _ a _ => l.length - (intOf a).toNat)
  case atStart => exact ⟨0, rfl, Nat.zero_le _, Lib.hid (World.ownsRow_nil _ _ _ _), Below.refl _ _⟩
  case round =>
    obtain ⟨i, rfl, hi, hown, hbr⟩ := hrel
    have w3i : IntKind.i64.wrap ((i : Int) + 1) = (i : Int) + 1 := by rw [wrap_i64]; omega
    by_cases hil : i < l.length
    · have hil' : (i : Int) < l.length := by omega
      have hic : (i : Int) ≤ cap := by omega
      obtain ⟨ad, kk, kb, kn, kf, ks, kB, klen, kc, hA, hkx, hkat⟩ := hp i _ (kAt_some hil)
      subst hA
      obtain ⟨y6, y0, y1, y2, y3, y4, y5⟩ := hkat.keep hbr
      have hbrs := hbr.size
      have hfl := firsts_len l i
      have hnx := Lib.hid (firsts_next l i)
      have hfi := Lib.hid (anyL_first l i)
      go_upto_region 5 with fail
      obtain ⟨w1, hw1⟩ : ∃ w1, w1 = wr.alloc (.cells #[.int .i64 kk, .bool kb, .int .i64 kn, .float .f64 kf, .string (st ks), .slice kB klen kc] 27) := ⟨_, rfl⟩
      have bk : Below wr.heap.size wr w1 := hw1 ▸ below_alloc wr _
      have hbox : Box w1 wr.heap.size kk kb kn kf ks kB klen kc := hw1 ▸ Box.new wr kk kb kn kf ks kB klen kc _
      rw [← hw1]
      have hbw1 := hbr.trans (bk.mono hbrs)
      have cc := containsD_c wr.heap.size i l (kAt l i) (some ad) cap kk kb kn kf ks kB klen kc w1 ((hp.keep hbr).keep bk) (Nat.le_of_lt hil) hl ((hkx.keep hbr).keep bk) hbox
      have hown1 := Lib.hid (own_stays hown.out bk)
      clear hw1 y6 y0 y1 y2 y3 y4 y5 hkx hkat hown
      generalize anyL l (kAt l i) i = R at *
      cases R with
      | true =>
        have hst : firsts l (i + 1) = firsts l i := by rw [hnx.out, hfi.out]; simp
        have hst := Lib.hid hst
        go_wp2_with ((with_reducible refine cc.mono ?_); rintro e w2 ⟨rfl, hb2⟩)
        exact ⟨⟨i + 1, by simp, hil, Lib.hid (by rw [hst.out]; exact own_stays hown1.out hb2), hbw1.trans (hb2.mono hbw1.size)⟩, by simp [intOf]; omega⟩
      | false =>
        have hst : firsts l (i + 1) = firsts l i ++ [i] := by rw [hnx.out, hfi.out]; simp
        have hst := Lib.hid hst
        go_upto_region 6 with ((with_reducible refine cc.mono ?_); rintro e w2 ⟨rfl, hb2⟩)
        have hown2 := Lib.hid (own_stays hown1.out hb2)
        have hbw2 := hbw1.trans (hb2.mono hbw1.size)
        have hbs2 := hbw2.size
        clear cc hown1 hb2 hbw1 hbox bk
        go_wp2_with (at_builtin; refine wpList_append_own _ rfl _ _ 28 rfl w.heap.size 3 i0 (.int .i64 0) 1 8 Try.underlying28 hi0 hz0 hz1 hz2 rfl (by decide) _ _ _ rfl (hown2.out.alloc _) ⟨w2.heap.size, 0, none⟩ 1 1 [.int .i64 (i : Int)] rfl rfl (cell_new w2 _ _) (int_one _) (by unfold maxLen; omega) (by omega) (by simp; omega) ?_)
        intro v7 w7 own7 hgrow _
        have hb7 : Below w.heap.size w w7 := (hbw2.alloc hbs2 _).grown hgrow (by simp; omega) fun k hk => (hown2.out.lt k hk).1
        have own7 := Lib.hid own7
        clear hgrow
        go_wp2_with fail
        exact ⟨⟨i + 1, by simp, hil, Lib.hid (by rw [hst.out, intC_snoc, List.length_append]; exact own7.out), hb7⟩, by simp [intOf]; omega⟩
    · have e : i = l.length := by omega
      subst e
      have hil' : ¬ (l.length : Int) < l.length := by omega
      obtain ⟨R, rc, hv, hI, _⟩ := IntsAt.ofOwn hown.out rfl
      subst hv
      clear hown hp
      go_wp2_with fail
      rw [hGo.out]
      exact ⟨R, rc, rfl, hI, hbr⟩
end Go.Proofs.Ytipjelkdbbhcpaa
